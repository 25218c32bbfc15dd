/- The document's flow: which blocks are reached; the same blocks. A loop over a function that hands on the elements of a list: what the rounds do is told by a state that hangs on blocks of its own. -/
import Derived.Test.YtijkdabmegbcjaaGreatDoorM19
import Derived.Test.YtijkdabmegbcjaaGreatDoorM05
set_option linter.unusedVariables false
set_option linter.unusedSimpArgs false
namespace Go.Proofs.YtijkdabmegbcjaaGreatDoor
open Go.RowKit

theorem walkF_lt {cs : List Nat} : ∀ (f : Nat) (seen now : List Nat) (far : Nat), (∀ x ∈ now, x < cs.length) → ∀ y ∈ walkF (blksN cs) f seen now far, y.1 < cs.length
  | 0, _, _, _, _, y, h => by simp [walkF] at h
  | f + 1, seen, now, far, hn, y, h => by
    unfold walkF at h
    split at h
    · simp at h
    · rcases List.mem_append.1 h with h | h
      · obtain ⟨k, hk, rfl⟩ := List.mem_map.1 h
        exact hn k hk
      · exact walkF_lt f _ _ _ (fun x hx => (layerN_mem hx).1) y h
theorem walkF_len {cs : List Nat} : ∀ (f : Nat) (seen now : List Nat) (far : Nat), now.length ≤ cs.length → (walkF (blksN cs) f seen now far).length ≤ f * cs.length
  | 0, _, _, _, _ => by simp [walkF]
  | f + 1, seen, now, far, hn => by
    unfold walkF
    split
    · simp
    · have := walkF_len (cs := cs) f (seen ++ layerN (blksN cs) seen now) (layerN (blksN cs) seen now) (far + 1) (sl_len (setL_sl _) fun x hx => (layerN_mem hx).1)
      rw [List.length_append, List.length_map, Nat.add_mul]
      omega
theorem walkZ_lt {cs : List Nat} {n : Int} : ∀ y ∈ walkZ cs n, y.1 < cs.length := fun y h => by
  unfold walkZ at h
  split at h
  · unfold walkN at h
    split at h
    · rename_i hs
      obtain ⟨b, hb⟩ := Option.isSome_iff_exists.1 hs
      refine walkF_lt _ _ _ _ (fun x hx => ?_) y h
      rw [List.mem_singleton] at hx
      have h1 := List.find?_some hb
      simp at h1
      rw [hx, ← h1]
      exact (first_lt (List.mem_of_find?_eq_some hb)).1
    · simp at h
  · simp at h
theorem walkZ_len {cs : List Nat} {n : Int} (hl : cs.length ≤ 200) : (walkZ cs n).length ≤ 41000 := by
  unfold walkZ
  split
  · unfold walkN
    split
    · rename_i hs
      obtain ⟨b, hb⟩ := Option.isSome_iff_exists.1 hs
      have h1 := (first_lt (List.mem_of_find?_eq_some hb)).1
      refine Nat.le_trans (walkF_len (cs := cs) _ _ _ _ (by simp; omega)) ?_
      have : (cs.length + 1) * cs.length ≤ 201 * 200 := Nat.mul_le_mul (by omega) hl
      omega
    · simp
  · simp
def fsts (l : List (Nat × Nat)) : List Nat := setL (l.map (·.1))
theorem fsts_take (l : List (Nat × Nat)) (i : Nat) (h : i < l.length) : fsts (l.take (i + 1)) = insW l[i].1 (fsts (l.take i)) := by
  unfold fsts
  rw [List.take_succ_eq_append_getElem h, List.map_append, List.map_singleton, setL_snoc]
set_option maxRecDepth 100000 in
set_option maxHeartbeats 4000000 in
theorem refReach_any (cs : List Nat) (n : Int) (a : Option Addr) (c : Nat) (w : World) (h : CodeAt w a c cs) :
    Calls Tryz.prog 24 #[.slice a cs.length c, .int .i64 n] w fun e w' => (∃ v, e = .returned v ∧ OwnI w w' v (reachZ cs n)) ∧ Below w.heap.size w w' := by
  have hw := Lib.hid (refWalk_any cs n a c w h)
  have hTl := walkZ_len (cs := cs) (n := n) h.len
  have hlen := h.len
  have hpre : Hid (∀ i, (fsts ((walkZ cs n).take i)).length ≤ cs.length) := Lib.hid fun i => sl_len (setL_sl _) fun x hx => by
    unfold fsts at hx
    rw [mem_setL] at hx
    obtain ⟨y, hy, rfl⟩ := List.mem_map.1 hx
    exact walkZ_lt y (List.mem_of_mem_take hy)
  have hR : Hid (fsts (walkZ cs n) = reachZ cs n) := Lib.hid (reachZ_walk cs n).symm
  generalize reachZ cs n = R at *
  generalize walkZ cs n = T at *
  clear h
  go_enter Tryz.func24, Tryz.ntmps24
  go_wp2_with (go_at_call 20; refine hw.out.mono ?_; rintro e w1 ⟨⟨p1, q1, rfl, hT, hz⟩, hb1⟩; replace hT := Lib.hid hT; replace hb1 := Lib.hid hb1; clear hz)
  go_loopw [5, 7] (fun xv iv wx => ∃ (i : Nat) (p : Option Addr) (q : Nat), i ≤ T.length ∧ iv = .int .i64 i ∧ xv = .slice p (fsts (T.take i)).length q ∧ Hid (OwnI w1 wx xv (fsts (T.take i))) ∧ Hid (Below w1.heap.size w1 wx)) (fun _ iv _ => T.length - (intOf iv).toNat)
  case atStart => exact ⟨0, none, 0, by omega, rfl, rfl, Lib.hid ⟨rfl, .inl ⟨rfl, rfl⟩⟩, Lib.hid (xrefl _)⟩
  case round =>
    obtain ⟨i, p, q, hi, rfl, rfl, hO, hb⟩ := hrel
    by_cases hlt : i < T.length
    · have hltI : (i : Int) < T.length := by omega
      obtain ⟨bl, ol, rfl, hcl⟩ := (hT.out.below hb.out).elt i hlt
      have hc1 : wr.cell? ⟨bl, ol + i * 2, none⟩ = some (.int .i64 T[i].1) := hcl 0 _ rfl
      have hsz : w1.heap.size ≤ wr.heap.size := hb.out.size
      have hwith := refWith_any (fsts (T.take i)) T[i].1 p q wr hO.out.ints (by have := hpre.out i; omega)
      have hst := Lib.hid (fsts_take T i hlt)
      clear hcl
      generalize T[i].1 = x at *
      generalize fsts (T.take i) = S1 at *
      replace hwith := Lib.hid hwith
      go_wp2_with (go_at_call 52; refine hwith.out.mono ?_; rintro e w7 ⟨⟨v7, rfl, hv7⟩, hb7⟩; obtain ⟨p7, q7, rfl, -⟩ := hv7.at; replace hv7 := Lib.hid (OwnI.base hv7 hsz); replace hb7 := Lib.hid (xtrans hb.out hb7))
      refine ⟨⟨i + 1, p7, q7, by omega, by go_num, by rw [hst.out], ?_, hb7⟩, by simp [intOf]; omega⟩
      rw [hst.out]; exact hv7
    · obtain rfl : i = T.length := by omega
      rw [List.take_length] at hO
      rw [List.take_length]
      clear hlt
      go_wp2
      go_ret
      refine ⟨⟨_, rfl, ?_⟩, xtrans hb1.out hb.out⟩
      rw [← hR.out]
      exact OwnI.base hO.out hb1.out.size
set_option maxRecDepth 100000 in
set_option maxHeartbeats 8000000 in
theorem refSame_any (bs : List BlkN) (a a' : Option Addr) (c c' : Nat) (w : World) (h : BlksAt w a c bs) (h' : BlksAt w a' c' bs) (hl : bs.length ≤ 1000) (hn : ∀ x ∈ bs, x.next.length ≤ 1000) :
    Calls Tryz.prog 13 #[.slice a bs.length c, .slice a' bs.length c'] w fun e w' => e = .returned (.bool true) ∧ Below w.heap.size w w' := by
  replace h := Lib.hid h
  replace h' := Lib.hid h'
  replace hn := Lib.hid hn
  go_enter Tryz.func13, Tryz.ntmps13
  go_wp2
  go_loopw [5] (fun iv wx => ∃ i : Nat, i ≤ bs.length ∧ iv = .int .i64 i ∧ Hid (Below w.heap.size w wx)) (fun iv _ => bs.length - (intOf iv).toNat)
  case atStart => exact ⟨0, by omega, rfl, Lib.hid (xrefl _)⟩
  case round =>
    obtain ⟨i, hi, rfl, hb0⟩ := hrel
    by_cases hlt : i < bs.length
    · have hltI : (i : Int) < bs.length := by omega
      obtain ⟨b, o, p, q, rfl, hr, hI⟩ := h.out.elt i hlt
      obtain ⟨b', o', p', q', rfl, hr', hI'⟩ := h'.out.elt i hlt
      obtain ⟨q0, q1, q2, q3⟩ := range_blk (rangeAt_below hr hb0.out)
      obtain ⟨r0, r1, r2, r3⟩ := range_blk (rangeAt_below hr' hb0.out)
      have hnl := hn.out _ (List.getElem_mem hlt)
      clear hr hr'
      generalize bs[i] = B at *
      obtain ⟨f, l, nx, e⟩ := B
      have hints : ∀ W, Below wr.heap.size wr W → Calls Tryz.prog 22 #[.slice p nx.length q, .slice p' nx.length q'] W fun e w' => e = .returned (.bool true) ∧ Below W.heap.size W w' := fun W hW => (refInts_any nx nx p p' q q' W (hI.below (xtrans hb0.out hW)) (hI'.below (xtrans hb0.out hW)) hnl hnl).mono fun e w' ⟨h1, k, h2⟩ => ⟨by rw [h1, decide_eq_true rfl], by rw [h2]; exact xdrewN (xrefl W) k⟩
      clear hI hI'
      simp only at q0 q1 q2 q3 r0 r1 r2 r3 hnl
      replace q0 := Lib.hid q0; replace q1 := Lib.hid q1; replace q2 := Lib.hid q2; replace q3 := Lib.hid q3
      replace r0 := Lib.hid r0; replace r1 := Lib.hid r1; replace r2 := Lib.hid r2; replace r3 := Lib.hid r3
      replace hints := Lib.hid hints
      go_wp2
      refine' wp_region_growL 51 [fixd _, fixd _, fixd _, fixd _, fixd _, fixd _, fixd _, fixd _, fixd _, fixd _, fixd _, fixd _, fixd _, fixd _, fixd _, fixd _, fixd _, fixd _, fixd _, fixd _, fixd _, fixd _, fixd _, fixd _, fixd _, fixd _, fixd _, fixd _, fixd _, fixd _, fixd _, fixd _, fixd _, fixd _, fixd _, fixd _, fixd _, fixd _, fixd _, fixd _, fixd _, fixd _, fixd _, fixd _, fixd _, fixd _, fixd _, fixd _, fixd _, fixd _, fixd _] (by kernel_rfl) (by kernel_rfl) ?_
      rotate_left 51
      simp only [List.take_succ_cons, List.take_zero, List.drop_succ_cons, List.drop_zero]
      try simp only [Act.put, List.setIfInBounds_toArray, List.set_cons_succ, List.set_cons_zero, List.nil_append, List.cons_append]
      refine' wpGrowV_fix _ rfl rfl (fun W hb _ => by go_simp; first | exact xrefl W | exact ⟨rfl, xrefl W⟩) ?_
      try simp only [Act.put, List.setIfInBounds_toArray, List.set_cons_succ, List.set_cons_zero, List.nil_append, List.cons_append]
      refine' wpGrowV_fix _ rfl rfl (fun W hb _ => by go_simp; first | exact xrefl W | exact ⟨rfl, xrefl W⟩) ?_
      try simp only [Act.put, List.setIfInBounds_toArray, List.set_cons_succ, List.set_cons_zero, List.nil_append, List.cons_append]
      refine' wpGrowV_fix _ rfl rfl (fun W hb _ => by go_simp; first | exact xrefl W | exact ⟨rfl, xrefl W⟩) ?_
      try simp only [Act.put, List.setIfInBounds_toArray, List.set_cons_succ, List.set_cons_zero, List.nil_append, List.cons_append]
      refine' wpGrowV_fix _ rfl rfl (fun W hb _ => by go_simp; first | exact xrefl W | exact ⟨rfl, xrefl W⟩) ?_
      try simp only [Act.put, List.setIfInBounds_toArray, List.set_cons_succ, List.set_cons_zero, List.nil_append, List.cons_append]
      refine' wpGrowV_fix _ rfl rfl (fun W hb _ => by have c := cbel hb q0.out; go_simp; first | exact xrefl W | exact ⟨rfl, xrefl W⟩) ?_
      try simp only [Act.put, List.setIfInBounds_toArray, List.set_cons_succ, List.set_cons_zero, List.nil_append, List.cons_append]
      refine' wpGrowV_fix _ rfl rfl (fun W hb _ => by go_simp; first | exact xrefl W | exact ⟨rfl, xrefl W⟩) ?_
      try simp only [Act.put, List.setIfInBounds_toArray, List.set_cons_succ, List.set_cons_zero, List.nil_append, List.cons_append]
      refine' wpGrowV_fix _ rfl rfl (fun W hb _ => by go_simp; first | exact xrefl W | exact ⟨rfl, xrefl W⟩) ?_
      try simp only [Act.put, List.setIfInBounds_toArray, List.set_cons_succ, List.set_cons_zero, List.nil_append, List.cons_append]
      refine' wpGrowV_fix _ rfl rfl (fun W hb _ => by go_simp; first | exact xrefl W | exact ⟨rfl, xrefl W⟩) ?_
      try simp only [Act.put, List.setIfInBounds_toArray, List.set_cons_succ, List.set_cons_zero, List.nil_append, List.cons_append]
      refine' wpGrowV_fix _ rfl rfl (fun W hb _ => by go_simp; first | exact xrefl W | exact ⟨rfl, xrefl W⟩) ?_
      try simp only [Act.put, List.setIfInBounds_toArray, List.set_cons_succ, List.set_cons_zero, List.nil_append, List.cons_append]
      refine' wpGrowV_fix _ rfl rfl (fun W hb _ => by have c := cbel hb r0.out; go_simp; first | exact xrefl W | exact ⟨rfl, xrefl W⟩) ?_
      try simp only [Act.put, List.setIfInBounds_toArray, List.set_cons_succ, List.set_cons_zero, List.nil_append, List.cons_append]
      refine' wpGrowV_fix _ rfl rfl (fun W hb _ => by go_simp; first | exact xrefl W | exact ⟨rfl, xrefl W⟩) ?_
      try simp only [Act.put, List.setIfInBounds_toArray, List.set_cons_succ, List.set_cons_zero, List.nil_append, List.cons_append]
      refine' wpGrowV_fix _ rfl rfl (fun W hb _ => by go_simp; first | exact xrefl W | exact ⟨rfl, xrefl W⟩) ?_
      try simp only [Act.put, List.setIfInBounds_toArray, List.set_cons_succ, List.set_cons_zero, List.nil_append, List.cons_append]
      first
        | (refine wpGrowV_not rfl rfl ?_)
        | (refine' wpGrowV_fix _ rfl rfl (fun W hb _ => by go_simp; first | exact xrefl W | exact ⟨rfl, xrefl W⟩) ?_)
      try simp only [Act.put, List.setIfInBounds_toArray, List.set_cons_succ, List.set_cons_zero, List.nil_append, List.cons_append]
      first
        | (refine wpGrowV_not rfl rfl ?_)
        | (refine' wpGrowV_fix _ rfl rfl (fun W hb _ => by go_simp; first | exact xrefl W | exact ⟨rfl, xrefl W⟩) ?_)
      try simp only [Act.put, List.setIfInBounds_toArray, List.set_cons_succ, List.set_cons_zero, List.nil_append, List.cons_append]
      first
        | (refine wpGrowV_not rfl rfl ?_)
        | (refine' wpGrowV_fix _ rfl rfl (fun W hb _ => by go_simp; first | exact xrefl W | exact ⟨rfl, xrefl W⟩) ?_)
      try simp only [Act.put, List.setIfInBounds_toArray, List.set_cons_succ, List.set_cons_zero, List.nil_append, List.cons_append]
      first
        | (refine wpGrowV_not rfl rfl ?_)
        | (refine' wpGrowV_fix _ rfl rfl (fun W hb _ => by go_simp; first | exact xrefl W | exact ⟨rfl, xrefl W⟩) ?_)
      try simp only [Act.put, List.setIfInBounds_toArray, List.set_cons_succ, List.set_cons_zero, List.nil_append, List.cons_append]
      first
        | (refine wpGrowV_not rfl rfl ?_)
        | (refine' wpGrowV_fix _ rfl rfl (fun W hb _ => by have c := cbel hb q1.out; go_simp; first | exact xrefl W | exact ⟨rfl, xrefl W⟩) ?_)
      try simp only [Act.put, List.setIfInBounds_toArray, List.set_cons_succ, List.set_cons_zero, List.nil_append, List.cons_append]
      first
        | (refine wpGrowV_not rfl rfl ?_)
        | (refine' wpGrowV_fix _ rfl rfl (fun W hb _ => by go_simp; first | exact xrefl W | exact ⟨rfl, xrefl W⟩) ?_)
      try simp only [Act.put, List.setIfInBounds_toArray, List.set_cons_succ, List.set_cons_zero, List.nil_append, List.cons_append]
      first
        | (refine wpGrowV_not rfl rfl ?_)
        | (refine' wpGrowV_fix _ rfl rfl (fun W hb _ => by go_simp; first | exact xrefl W | exact ⟨rfl, xrefl W⟩) ?_)
      try simp only [Act.put, List.setIfInBounds_toArray, List.set_cons_succ, List.set_cons_zero, List.nil_append, List.cons_append]
      first
        | (refine wpGrowV_not rfl rfl ?_)
        | (refine' wpGrowV_fix _ rfl rfl (fun W hb _ => by go_simp; first | exact xrefl W | exact ⟨rfl, xrefl W⟩) ?_)
      try simp only [Act.put, List.setIfInBounds_toArray, List.set_cons_succ, List.set_cons_zero, List.nil_append, List.cons_append]
      first
        | (refine wpGrowV_not rfl rfl ?_)
        | (refine' wpGrowV_fix _ rfl rfl (fun W hb _ => by go_simp; first | exact xrefl W | exact ⟨rfl, xrefl W⟩) ?_)
      try simp only [Act.put, List.setIfInBounds_toArray, List.set_cons_succ, List.set_cons_zero, List.nil_append, List.cons_append]
      first
        | (refine wpGrowV_not rfl rfl ?_)
        | (refine' wpGrowV_fix _ rfl rfl (fun W hb _ => by have c := cbel hb r1.out; go_simp; first | exact xrefl W | exact ⟨rfl, xrefl W⟩) ?_)
      try simp only [Act.put, List.setIfInBounds_toArray, List.set_cons_succ, List.set_cons_zero, List.nil_append, List.cons_append]
      first
        | (refine wpGrowV_not rfl rfl ?_)
        | (refine' wpGrowV_fix _ rfl rfl (fun W hb _ => by go_simp; first | exact xrefl W | exact ⟨rfl, xrefl W⟩) ?_)
      try simp only [Act.put, List.setIfInBounds_toArray, List.set_cons_succ, List.set_cons_zero, List.nil_append, List.cons_append]
      refine' wpGrowV_fix _ rfl rfl (fun W hb _ => by go_simp; first | exact xrefl W | exact ⟨rfl, xrefl W⟩) ?_
      try simp only [Act.put, List.setIfInBounds_toArray, List.set_cons_succ, List.set_cons_zero, List.nil_append, List.cons_append]
      refine' wpGrowV_fix _ rfl rfl (fun W hb _ => by go_simp; first | exact xrefl W | exact ⟨rfl, xrefl W⟩) ?_
      try simp only [Act.put, List.setIfInBounds_toArray, List.set_cons_succ, List.set_cons_zero, List.nil_append, List.cons_append]
      first
        | (refine wpGrowV_not rfl rfl ?_)
        | (refine' wpGrowV_fix _ rfl rfl (fun W hb _ => by go_simp; first | exact xrefl W | exact ⟨rfl, xrefl W⟩) ?_)
      try simp only [Act.put, List.setIfInBounds_toArray, List.set_cons_succ, List.set_cons_zero, List.nil_append, List.cons_append]
      first
        | (refine wpGrowV_not rfl rfl ?_)
        | (refine' wpGrowV_fix _ rfl rfl (fun W hb _ => by go_simp; first | exact xrefl W | exact ⟨rfl, xrefl W⟩) ?_)
      try simp only [Act.put, List.setIfInBounds_toArray, List.set_cons_succ, List.set_cons_zero, List.nil_append, List.cons_append]
      first
        | (refine wpGrowV_not rfl rfl ?_)
        | (refine' wpGrowV_fix _ rfl rfl (fun W hb _ => by go_simp; first | exact xrefl W | exact ⟨rfl, xrefl W⟩) ?_)
      try simp only [Act.put, List.setIfInBounds_toArray, List.set_cons_succ, List.set_cons_zero, List.nil_append, List.cons_append]
      first
        | (refine wpGrowV_not rfl rfl ?_)
        | (refine' wpGrowV_fix _ rfl rfl (fun W hb _ => by go_simp; first | exact xrefl W | exact ⟨rfl, xrefl W⟩) ?_)
      try simp only [Act.put, List.setIfInBounds_toArray, List.set_cons_succ, List.set_cons_zero, List.nil_append, List.cons_append]
      first
        | (refine wpGrowV_not rfl rfl ?_)
        | (refine' wpGrowV_fix _ rfl rfl (fun W hb _ => by have c := cbel hb q3.out; go_simp; first | exact xrefl W | exact ⟨rfl, xrefl W⟩) ?_)
      try simp only [Act.put, List.setIfInBounds_toArray, List.set_cons_succ, List.set_cons_zero, List.nil_append, List.cons_append]
      first
        | (refine wpGrowV_not rfl rfl ?_)
        | (refine' wpGrowV_fix _ rfl rfl (fun W hb _ => by go_simp; first | exact xrefl W | exact ⟨rfl, xrefl W⟩) ?_)
      try simp only [Act.put, List.setIfInBounds_toArray, List.set_cons_succ, List.set_cons_zero, List.nil_append, List.cons_append]
      first
        | (refine wpGrowV_not rfl rfl ?_)
        | (refine' wpGrowV_fix _ rfl rfl (fun W hb _ => by go_simp; first | exact xrefl W | exact ⟨rfl, xrefl W⟩) ?_)
      try simp only [Act.put, List.setIfInBounds_toArray, List.set_cons_succ, List.set_cons_zero, List.nil_append, List.cons_append]
      first
        | (refine wpGrowV_not rfl rfl ?_)
        | (refine' wpGrowV_fix _ rfl rfl (fun W hb _ => by go_simp; first | exact xrefl W | exact ⟨rfl, xrefl W⟩) ?_)
      try simp only [Act.put, List.setIfInBounds_toArray, List.set_cons_succ, List.set_cons_zero, List.nil_append, List.cons_append]
      first
        | (refine wpGrowV_not rfl rfl ?_)
        | (refine' wpGrowV_fix _ rfl rfl (fun W hb _ => by go_simp; first | exact xrefl W | exact ⟨rfl, xrefl W⟩) ?_)
      try simp only [Act.put, List.setIfInBounds_toArray, List.set_cons_succ, List.set_cons_zero, List.nil_append, List.cons_append]
      first
        | (refine wpGrowV_not rfl rfl ?_)
        | (refine' wpGrowV_fix _ rfl rfl (fun W hb _ => by have c := cbel hb r3.out; go_simp; first | exact xrefl W | exact ⟨rfl, xrefl W⟩) ?_)
      try simp only [Act.put, List.setIfInBounds_toArray, List.set_cons_succ, List.set_cons_zero, List.nil_append, List.cons_append]
      first
        | (refine wpGrowV_not rfl rfl ?_)
        | (refine' wpGrowV_fix _ rfl rfl (fun W hb _ => by go_simp; first | exact xrefl W | exact ⟨rfl, xrefl W⟩) ?_)
      try simp only [Act.put, List.setIfInBounds_toArray, List.set_cons_succ, List.set_cons_zero, List.nil_append, List.cons_append]
      refine' wpGrowV_fix _ rfl rfl (fun W hb _ => by go_simp; first | exact xrefl W | exact ⟨rfl, xrefl W⟩) ?_
      try simp only [Act.put, List.setIfInBounds_toArray, List.set_cons_succ, List.set_cons_zero, List.nil_append, List.cons_append]
      refine' wpGrowV_fix _ rfl rfl (fun W hb _ => by go_simp; first | exact xrefl W | exact ⟨rfl, xrefl W⟩) ?_
      try simp only [Act.put, List.setIfInBounds_toArray, List.set_cons_succ, List.set_cons_zero, List.nil_append, List.cons_append]
      first
        | (refine wpGrowV_not rfl rfl ?_)
        | (refine' wpGrowV_fix _ rfl rfl (fun W hb _ => by go_simp; first | exact xrefl W | exact ⟨rfl, xrefl W⟩) ?_)
      try simp only [Act.put, List.setIfInBounds_toArray, List.set_cons_succ, List.set_cons_zero, List.nil_append, List.cons_append]
      first
        | (refine wpGrowV_not rfl rfl ?_)
        | (refine' wpGrowV_fix _ rfl rfl (fun W hb _ => by go_simp; first | exact xrefl W | exact ⟨rfl, xrefl W⟩) ?_)
      try simp only [Act.put, List.setIfInBounds_toArray, List.set_cons_succ, List.set_cons_zero, List.nil_append, List.cons_append]
      first
        | (refine wpGrowV_not rfl rfl ?_)
        | (refine' wpGrowV_fix _ rfl rfl (fun W hb _ => by go_simp; first | exact xrefl W | exact ⟨rfl, xrefl W⟩) ?_)
      try simp only [Act.put, List.setIfInBounds_toArray, List.set_cons_succ, List.set_cons_zero, List.nil_append, List.cons_append]
      first
        | (refine wpGrowV_not rfl rfl ?_)
        | (refine' wpGrowV_fix _ rfl rfl (fun W hb _ => by go_simp; first | exact xrefl W | exact ⟨rfl, xrefl W⟩) ?_)
      try simp only [Act.put, List.setIfInBounds_toArray, List.set_cons_succ, List.set_cons_zero, List.nil_append, List.cons_append]
      first
        | (refine wpGrowV_not rfl rfl ?_)
        | (refine' wpGrowV_fix _ rfl rfl (fun W hb _ => by have c := cbel hb q2.out; go_simp; first | exact xrefl W | exact ⟨rfl, xrefl W⟩) ?_)
      try simp only [Act.put, List.setIfInBounds_toArray, List.set_cons_succ, List.set_cons_zero, List.nil_append, List.cons_append]
      first
        | (refine wpGrowV_not rfl rfl ?_)
        | (refine' wpGrowV_fix _ rfl rfl (fun W hb _ => by go_simp; first | exact xrefl W | exact ⟨rfl, xrefl W⟩) ?_)
      try simp only [Act.put, List.setIfInBounds_toArray, List.set_cons_succ, List.set_cons_zero, List.nil_append, List.cons_append]
      first
        | (refine wpGrowV_not rfl rfl ?_)
        | (refine' wpGrowV_fix _ rfl rfl (fun W hb _ => by go_simp; first | exact xrefl W | exact ⟨rfl, xrefl W⟩) ?_)
      try simp only [Act.put, List.setIfInBounds_toArray, List.set_cons_succ, List.set_cons_zero, List.nil_append, List.cons_append]
      first
        | (refine wpGrowV_not rfl rfl ?_)
        | (refine' wpGrowV_fix _ rfl rfl (fun W hb _ => by go_simp; first | exact xrefl W | exact ⟨rfl, xrefl W⟩) ?_)
      try simp only [Act.put, List.setIfInBounds_toArray, List.set_cons_succ, List.set_cons_zero, List.nil_append, List.cons_append]
      first
        | (refine wpGrowV_not rfl rfl ?_)
        | (refine' wpGrowV_fix _ rfl rfl (fun W hb _ => by go_simp; first | exact xrefl W | exact ⟨rfl, xrefl W⟩) ?_)
      try simp only [Act.put, List.setIfInBounds_toArray, List.set_cons_succ, List.set_cons_zero, List.nil_append, List.cons_append]
      first
        | (refine wpGrowV_not rfl rfl ?_)
        | (refine' wpGrowV_fix _ rfl rfl (fun W hb _ => by have c := cbel hb r2.out; go_simp; first | exact xrefl W | exact ⟨rfl, xrefl W⟩) ?_)
      try simp only [Act.put, List.setIfInBounds_toArray, List.set_cons_succ, List.set_cons_zero, List.nil_append, List.cons_append]
      first
        | (refine wpGrowV_not rfl rfl ?_)
        | (refine' wpGrowV_fix _ rfl rfl (fun W hb hF => ?_) ?_
           · clear hF
             go_simp
             go_at_call 22
             refine (hints.out W hb).mono ?_
             rintro e w' ⟨rfl, hb'⟩
             refine ⟨?_, hb'⟩
             exact rfl)
      try simp only [Act.put, List.setIfInBounds_toArray, List.set_cons_succ, List.set_cons_zero, List.nil_append, List.cons_append]
      first
        | (refine wpGrowV_not rfl rfl ?_)
        | (refine' wpGrowV_fix _ rfl rfl (fun W hb _ => by go_simp; first | exact xrefl W | exact ⟨rfl, xrefl W⟩) ?_)
      try simp only [Act.put, List.setIfInBounds_toArray, List.set_cons_succ, List.set_cons_zero, List.nil_append, List.cons_append]
      refine' wpGrowV_fix _ rfl rfl (fun W hb _ => by go_simp; first | exact xrefl W | exact ⟨rfl, xrefl W⟩) ?_
      try simp only [Act.put, List.setIfInBounds_toArray, List.set_cons_succ, List.set_cons_zero, List.nil_append, List.cons_append]

      refine wpGrowV_nil fun W5 hb5 _ => ?_
      replace hb5 := Lib.hid (xtrans hb0.out hb5)
      go_wp2
      exact ⟨⟨i + 1, by omega, by go_num, hb5⟩, by simp [intOf]; omega⟩
    · obtain rfl : i = bs.length := by omega
      clear hlt
      go_wp2
      go_ret
      exact ⟨rfl, hb0.out⟩
end Go.Proofs.YtijkdabmegbcjaaGreatDoor
namespace Go.Proofs.YtijkdabmegbcjaaGreatDoor
open Go.RowKit Go.Shelf

theorem wpIn_scope_wide {P : Program} {c : Code} {Q : Exit → Act → World → Prop} {a : Act} {w : World} (h : c.wpIn Fence.wide 0 P (Exit.noGoto Q) a w) : (Code.scope c).wpIn Fence.wide 0 P Q a w :=
  wpIn_wide.2 (wp_scope_straight (wpIn_wide.1 h))
theorem Fac.any (R : Prop) : Fac (fun _ => False) (fun _ => R) := ⟨fun _ _ h _ _ => h, fun _ _ _ h => h.elim⟩
theorem Fac.only' {S O : Nat → Prop} {R : World → Prop} {W W' : World} (h : Fac S R) (hR : R W) (ho : Only O W W') (hO : ∀ k, S k → ¬ O k) : R W' := h.on.only hR ho hO
theorem take_snoc {α : Type} {l pre : List α} {x : α} {k : Nat} (hk : k ≤ l.length) (h : pre ++ [x] = l.take k) : ∃ hl : pre.length < l.length, l[pre.length] = x ∧ pre = l.take pre.length := by
  have hlen := congrArg List.length h
  rw [List.length_append, List.length_take, List.length_singleton] at hlen
  have hkk : k = pre.length + 1 := by omega
  have hl : pre.length < l.length := by omega
  refine ⟨hl, ?_, ?_⟩
  · rw [hkk, List.take_succ_eq_append_getElem hl] at h
    have := (List.append_inj' h rfl).2
    simpa using this.symm
  · rw [hkk, List.take_succ_eq_append_getElem hl] at h
    exact (List.append_inj' h rfl).1

/-- How a round may be left. -/
def postL (k : Nat) (St : Nat → (Nat → Prop) → World → Prop) (Stop : Nat → Code → (Nat → Prop) → World → Prop) (S : Nat → Prop) (W : World) : Exit → Act → World → Prop
  | .normal, _, W' => Only S W W' ∧ ∃ S', (∀ j, S' j → S j ∨ W.heap.size ≤ j) ∧ St (k + 1) S' W'
  | .ret, _, W' => Only S W W' ∧ ∃ S', (∀ j, S' j → S j ∨ W.heap.size ≤ j) ∧ Stop k .ret S' W'
  | .exit id, _, W' => Only S W W' ∧ ∃ S', (∀ j, S' j → S j ∨ W.heap.size ≤ j) ∧ Stop k (.exit id) S' W'
  | .goto t, _, W' => Only S W W' ∧ ∃ S', (∀ j, S' j → S j ∨ W.heap.size ≤ j) ∧ Stop k (.goto t) S' W'
  | .panic _, _, _ => False
  | .outgrown, _, _ => False

theorem wp_rangeL {P : Program} {α : Type} {g : Operand} {ps : Array Tmp} {assign body : Code} {Q : Exit → Act → World → Prop} {a : Act} {w w0 : World}
    {gf : Nat} {lb : Array Value} (hg : a.eval g = .func (.func gf) #[] lb) (eg : ∀ args w, (callFunc gf args).run P w = .ok (.enter gf args) w)
    {encs : α → Array Value} {Rd : Nat → Prop} (l : List α) (hRd : ∀ k, Rd k → k < w.heap.size) (hw0 : Below w0.heap.size w0 w)
    (hseq : ∀ W, Below w.heap.size w W → SeqP P gf lb encs Rd (fun xs => xs = l) (fun pre => ∃ k, k ≤ l.length ∧ pre = l.take k) l.length false W) (hps : ∀ x, (encs x).size = ps.size)
    (St : Nat → (Nat → Prop) → World → Prop) (Stop : Nat → Code → (Nat → Prop) → World → Prop) (fac : ∀ k S, Fac S (St k S)) (facS : ∀ k c S, Fac S (Stop k c S))
    (S0 : Nat → Prop) (hS0 : ∀ j, S0 j → w0.heap.size ≤ j ∧ ¬ Rd j) (h0 : St 0 S0 w)
    (hround : ∀ (l0 k : Nat) (hk : k < l.length) (W : World),
      assign.wpIn (Fence.wide.inRound l0) 0 P (Exit.then (fun a₁ W₁ => W₁ = W ∧ ∀ S W₂, Below w0.heap.size w0 W₂ → w.heap.size ≤ W₂.heap.size → (∀ j, Rd j → W₂.heap[j]? = w.heap[j]?) → (∀ j, S j → w0.heap.size ≤ j ∧ ¬ Rd j) → St k S W₂ →
        body.wpIn (Fence.wide.inRound l0) 0 P (postL k St Stop S W₂) a₁ W₂) (fun _ _ _ => False))
        { tmps := (ps.zip (encs l[k])).foldl (fun t (p, v) => t.setIfInBounds p v) a.tmps, defers := [] } W)
    (hdone : ∀ (D : Nat) (S : Nat → Prop) (W : World), w.heap.size ≤ D → ¬ S D → Below w0.heap.size w0 W → (∀ j, Rd j → W.heap[j]? = w.heap[j]?) → (∀ j, S j → w0.heap.size ≤ j) → St l.length S W → W.heap[D]? = some (.deferred (some [])) → Q .normal { a with defers := { target := .collected D, args := #[] } :: a.defers } W)
    (hstop : ∀ (D k : Nat) (c : Code) (S : Nat → Prop) (W : World), k < l.length → w.heap.size ≤ D → ¬ S D → Below w0.heap.size w0 W → (∀ j, Rd j → W.heap[j]? = w.heap[j]?) → (∀ j, S j → w0.heap.size ≤ j) → Stop k c S W → W.heap[D]? = some (.deferred (some [])) → c.wpIn Fence.wide 0 P Q { a with defers := { target := .collected D, args := #[] } :: a.defers } W) :
    (Code.rangeFunc g ps assign body).wpIn Fence.wide 0 P Q a w := by
  have stab : ∀ (F : Nat → (Nat → Prop) → World → Prop) (_ : ∀ k S, Fac S (F k S)) (m : List α → Nat), Stable w.heap.size (fun O (pre : List α) W => Below w0.heap.size w0 W ∧ w.heap.size ≤ W.heap.size ∧ (∀ j, Rd j → W.heap[j]? = w.heap[j]?) ∧ ∃ S, (∀ j, S j → ¬ O j ∧ w0.heap.size ≤ j ∧ ¬ Rd j) ∧ F (m pre) S W) := by
    rintro F fF m O O' s W W' ⟨h1, h2, h3, S, h4, h5⟩ hO hon hO'
    refine ⟨hon.below h1 h1.size (fun i hi => by have := hO i hi; have := hw0.size; omega), Nat.le_trans h2 hon.size, fun j hj => ?_, S, fun j hj => ⟨fun h => ?_, (h4 j hj).2⟩, (fF _ S).only' h5 hon fun j hj => (h4 j hj).1⟩
    · have := hRd j hj
      rw [hon.same j (by omega) (fun h => by have := hO j h; omega)]
      exact h3 j hj
    · have hl := (fF _ S).lt _ h5 j hj
      rcases hO' j h with h | h
      · exact (h4 j hj).1 h
      · omega
  refine wp_rangeP hg eg (encs := encs) (Rd := Rd) (S := fun xs => xs = l) (Sp := fun pre => ∃ k, k ≤ l.length ∧ pre = l.take k) (N := l.length) (inf := false) hRd hseq hps
    (fun O pre W => Below w0.heap.size w0 W ∧ w.heap.size ≤ W.heap.size ∧ (∀ j, Rd j → W.heap[j]? = w.heap[j]?) ∧ ∃ S, (∀ j, S j → ¬ O j ∧ w0.heap.size ≤ j ∧ ¬ Rd j) ∧ St pre.length S W)
    (fun c O pre W => Below w0.heap.size w0 W ∧ w.heap.size ≤ W.heap.size ∧ (∀ j, Rd j → W.heap[j]? = w.heap[j]?) ∧ ∃ S, (∀ j, S j → ¬ O j ∧ w0.heap.size ≤ j ∧ ¬ Rd j) ∧ (Stop (pre.length - 1) c S W ∧ pre.length - 1 < l.length))
    (stab St fac List.length) (fun c => stab (fun k S W => Stop k c S W ∧ k < l.length) (fun k S => ⟨fun W W' h hz hs => ⟨(facS k c S).on W W' h.1 hz hs, h.2⟩, fun W h => (facS k c S).lt W h.1⟩) (fun pre => pre.length - 1)) ⟨hw0, Nat.le_refl _, fun _ _ => rfl, S0, fun j hj => ⟨fun h => h, hS0 j hj⟩, h0⟩ (fun h => by cases h) ?_ ?_ ?_
  · rintro l0 O pre x W hOl hO hI hlen ⟨k, hk, hsp⟩
    obtain ⟨hl, hx, -⟩ := take_snoc hk hsp
    subst hx
    refine wpIn_mono (hround l0 pre.length hl W) ?_
    rintro e a1 W1 hp
    cases e with
    | normal =>
      obtain ⟨rfl, hb⟩ := hp
      refine ⟨Keep.refl _ _, fun W2 hon => ?_⟩
      obtain ⟨h1, h2, h3, S, h4, h5⟩ := stab St fac List.length O O pre W1 W2 hI (fun k h => (hO k h).1) (hon.mono fun j _ e => by rw [e]; exact hOl) (fun k h => .inl h)
      have hO2 : ∀ k, O k → k < W2.heap.size := fun k h => Nat.lt_of_lt_of_le (hO k h).2 hon.size
      refine wpIn_mono (hb S W2 h1 h2 h3 (fun j hj => (h4 j hj).2) h5) ?_
      have key : ∀ (F : Nat → (Nat → Prop) → World → Prop) (W3 : World), Only S W2 W3 → (∃ S', (∀ j, S' j → S j ∨ W2.heap.size ≤ j) ∧ F 0 S' W3) →
          Keep (fun k => O k ∨ Rd k) W2 W3 ∧ Below w0.heap.size w0 W3 ∧ w.heap.size ≤ W3.heap.size ∧ (∀ j, Rd j → W3.heap[j]? = w.heap[j]?) ∧ ∃ S, (∀ j, S j → ¬ O j ∧ w0.heap.size ≤ j ∧ ¬ Rd j) ∧ F 0 S W3 := by
        rintro F W3 ho ⟨S', e1, e2⟩
        refine ⟨⟨ho.size, fun j hj h => ho.same j hj fun hs => ?_⟩, ho.below h1 h1.size (fun j hj => (h4 j hj).2.1), Nat.le_trans h2 ho.size, fun j hj => ?_, S', fun j hj => ?_, e2⟩
        · rcases h with h | h
          · exact (h4 j hs).1 h
          · exact (h4 j hs).2.2 h
        · have := hRd j hj
          rw [ho.same j (by omega) fun hs => (h4 j hs).2.2 hj]
          exact h3 j hj
        · rcases e1 j hj with h | h
          · exact h4 j h
          · have := hw0.size
            exact ⟨fun ho => by have := hO2 j ho; omega, by omega, fun hr => by have := hRd j hr; omega⟩
      rintro e a3 W3 hp
      cases e with
      | normal =>
        obtain ⟨ho, hs⟩ := hp
        obtain ⟨r1, r2, r3, r4, r5⟩ := key (fun _ S W => St (pre.length + 1) S W) W3 ho hs
        exact ⟨r1, r2, r3, r4, by rw [List.length_append]; exact r5⟩
      | ret =>
        obtain ⟨ho, S', hS', hs⟩ := hp
        obtain ⟨r1, r2, r3, r4, r5⟩ := key (fun _ S W => Stop pre.length .ret S W ∧ pre.length < l.length) W3 ho ⟨S', hS', hs, hl⟩
        exact ⟨r1, r2, r3, r4, by rw [List.length_append]; exact r5⟩
      | exit id =>
        obtain ⟨ho, S', hS', hs⟩ := hp
        obtain ⟨r1, r2, r3, r4, r5⟩ := key (fun _ S W => Stop pre.length (.exit id) S W ∧ pre.length < l.length) W3 ho ⟨S', hS', hs, hl⟩
        exact ⟨r1, r2, r3, r4, by rw [List.length_append]; exact r5⟩
      | goto t =>
        obtain ⟨ho, S', hS', hs⟩ := hp
        obtain ⟨r1, r2, r3, r4, r5⟩ := key (fun _ S W => Stop pre.length (.goto t) S W ∧ pre.length < l.length) W3 ho ⟨S', hS', hs, hl⟩
        exact ⟨r1, r2, r3, r4, by rw [List.length_append]; exact r5⟩
      | panic ch => exact hp.elim
      | outgrown => exact hp.elim
    | _ => exact hp.elim
  · rintro D xs O W hD hOD hO hS ⟨h1, h2, h3, S, h4, h5⟩ hK
    rw [show xs = l from hS] at h5
    exact hdone D S W hD (fun h => (h4 D h).1 hOD) h1 h3 (fun j hj => (h4 j hj).2.1) h5 hK
  · rintro D c pre O W hD hOD hO hSp ⟨h1, h2, h3, S, h4, h5, h6⟩ hK
    exact hstop D _ c S W h6 hD (fun h => (h4 D h).1 hOD) h1 h3 (fun j hj => (h4 j hj).2.1) h5 hK
end Go.Proofs.YtijkdabmegbcjaaGreatDoor
