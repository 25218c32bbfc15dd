/- Layer 24, the document's answer: a line, a block that is mixed in. -/
import Derived.Test.YtfafancacfjodaaRipB
namespace Go.Proofs.Ytfafancacfjodaa
open Go.RowKit

theorem keep_below {P : Program} {f : FuncId} {args : Array Value} {w : World} {v : Value} (h : Calls P f args w fun e w' => e = .returned v ∧ w = w') : Calls P f args w fun e w' => e = .returned v ∧ Below w.heap.size w w' :=
  h.mono fun _ _ h => ⟨h.1, h.2 ▸ xrefl w⟩

set_option maxRecDepth 100000 in
set_option maxHeartbeats 2000000 in
theorem refLine_any (second : Bool) (b h : Nat → BitVec 32) (w : World) :
    Calls Try.prog 27 #[arrV .u32 (rowI 5 h), arrV .u32 (rowI 16 b), .bool second] w fun e w' => e = .returned (arrV .u32 (rowI 5 (lineF second b h))) ∧ Below w.heap.size w w' := by
  unfold arrV
  obtain ⟨lh, hlh⟩ : ∃ l, l = rowI 5 h := ⟨_, rfl⟩
  obtain ⟨lb, hlb⟩ : ∃ l, l = rowI 16 b := ⟨_, rfl⟩
  rw [← hlh, ← hlb]
  have nh : lh.length = 5 := by rw [hlh, rowI_len]
  have nb : lb.length = 16 := by rw [hlb, rowI_len]
  go_enter Try.func27, Try.ntmps27
  obtain ⟨w1, hw1⟩ : ∃ w1, (((w.alloc (Obj.cells (lh.map (Value.int .u32)).toArray 29)).alloc (Obj.cells (lb.map (Value.int .u32)).toArray 30)).alloc (Obj.cells ((List.replicate 5 0).map (Value.int .u32)).toArray 29)) = w1 := ⟨_, rfl⟩
  have hH : Blk .u32 w1 w.heap.size 29 lh := by rw [← hw1]; exact ((Blk.new w _ lh).alloc _).alloc _
  have hB : Blk .u32 w1 (w.heap.size + 1) 30 lb := by rw [← hw1]; exact (Blk.new' _ _ _ lb (by simp)).alloc _
  have hR : Blk .u32 w1 (w.heap.size + 1 + 1) 29 (List.replicate 5 0) := by rw [← hw1]; exact Blk.new' _ _ _ _ (by simp)
  have hbw : Below w.heap.size w w1 := by rw [← hw1]; exact xalloc (xalloc (xalloc (xrefl _) _) _) _
  rw [hlh] at hH
  rw [hlb] at hB
  replace hw1 := Lib.hid hw1
  replace hlh := Lib.hid hlh
  replace hlb := Lib.hid hlb
  replace nh := Lib.hid nh
  replace nb := Lib.hid nb
  replace hH := Lib.hid hH
  replace hB := Lib.hid hB
  replace hR := Lib.hid hR
  go_upto_region 1 with fail
  refine wp_world (w' := w1) hw1.out ?_
  clear hw1
  go_wp2
  go_loopw [7] (fun iv wx => ∃ k : Nat, k ≤ 80 ∧ iv = .int .i64 k ∧ Hid (Blk .u32 wx w.heap.size 29 (rowI 5 (lineTo second b h k))) ∧ Hid (Blk .u32 wx (w.heap.size + 1) 30 (rowI 16 b)) ∧ Hid (Blk .u32 wx (w.heap.size + 1 + 1) 29 (List.replicate 5 0)) ∧ Below w.heap.size w wx) (fun iv _ => 80 - (intOf iv).toNat)
  case atStart => exact ⟨0, by omega, rfl, hH, hB, hR, hbw⟩
  case round =>
    clear hH hB hR hbw
    obtain ⟨k, hk, rfl, hH, hB, hR, hbw⟩ := hrel
    by_cases hlt : k < 80
    · have hnext : Hid (lineTo second b h (k + 1) = stepR second k b (lineTo second b h k)) := Lib.hid rfl
      generalize lineTo second b h k = s at *
      obtain ⟨r, hr⟩ : ∃ r, r = k / 16 := ⟨_, rfl⟩
      obtain ⟨n, hn⟩ : ∃ n, n = takeN second k := ⟨_, rfl⟩
      have hr5 : r < 5 := by omega
      have hn16 : n < 16 := by rw [hn]; exact take_lt _ _
      have hkr : (k : Int) / 16 = (r : Int) := by omega
      obtain ⟨g, hg⟩ : ∃ g, g = if second then 4 - r else r := ⟨_, rfl⟩
      have hg5 : g < 5 := by rw [hg]; split <;> omega
      have hgS : second = true → (4 : Int) - (r : Int) = (g : Int) := fun e => by rw [hg, if_pos e]; omega
      have hgF : second = false → r = g := fun e => by rw [hg, if_neg (by simp [e])]
      have hTk := fun W => refTakes_any second k W hlt
      have hN := fun W => refNumber_any second r W hr5
      have hT := fun W => refTurn_any r n W hr5 hn16
      have htb := turn_bd r hr5 n hn16
      have hstep : Hid (stepR second k b s = fun i => if i = 0 then s 4 else if i = 1 then add32 (rol32 (add32 (add32 (add32 (s 0) (fF g (s 1) (s 2) (s 3))) (b n)) (keyF second r)) (turnN r n)) (s 4) else if i = 2 then s 1 else if i = 3 then rol32 (s 2) 10 else s 3) := Lib.hid (by unfold stepR sumK; rw [← hr, ← hn, ← hg])
      rw [← hn] at hTk
      replace hTk := Lib.hid hTk
      replace hN := Lib.hid hN
      replace hT := Lib.hid hT
      replace hr := Lib.hid hr
      replace hn := Lib.hid hn
      replace hg := Lib.hid hg
      have hxs : ∀ i, (hi : i < 5) → wr.cell? ⟨w.heap.size, i, none⟩ = some (.int .u32 (iv32 (s i))) := fun i hi => by
        rw [hH.out.cell i (by rw [rowI_len]; exact hi), rowI_get]
      have c0 := hxs 0 (by decide)
      have c1 := hxs 1 (by decide)
      have c2 := hxs 2 (by decide)
      have c3 := hxs 3 (by decide)
      have c4 := hxs 4 (by decide)
      have cb := hB.out.cell n (by rw [rowI_len]; exact hn16)
      rw [rowI_get] at cb
      clear hxs
      have hn2 : (n : Int) < 16 := by omega
      have hF := fun W => keep_below (refF_any g (s 1) (s 2) (s 3) W hg5)
      generalize hfv : fF g (s 1) (s 2) (s 3) = fv at hF hstep
      generalize hkv : keyF second r = kv at hN hstep
      generalize htn : turnN r n = tn at hT hstep htb
      generalize hbn : b n = bn at cb hstep
      generalize h0 : s 0 = x0 at *
      generalize h1 : s 1 = x1 at *
      generalize h2 : s 2 = x2 at *
      generalize h3 : s 3 = x3 at *
      generalize h4 : s 4 = x4 at *
      have hRt := fun W => keep_below (refTurned_any (add32 (add32 (add32 x0 fv) bn) kv) tn W htb.1 htb.2)
      have hR2 := fun W => keep_below (refTurned_any x2 10 W (by decide) (by decide))
      clear h0 h1 h2 h3 h4 hfv hkv htn hbn
      replace c0 := Lib.hid c0
      replace c1 := Lib.hid c1
      replace c2 := Lib.hid c2
      replace c3 := Lib.hid c3
      replace c4 := Lib.hid c4
      replace cb := Lib.hid cb
      replace hF := Lib.hid hF
      replace hRt := Lib.hid hRt
      replace hR2 := Lib.hid hR2
      have hsel : Hid (second = true ∨ second = false) := Lib.hid (by cases second <;> simp)
      go_upto_region 5 with (go_at_call 13; refine (hTk.out _).mono ?_; rintro e w2 ⟨rfl, hb2⟩)
      have q0 := Lib.hid (cbel hb2 c0.out)
      have q1 := Lib.hid (cbel hb2 c1.out)
      have q2 := Lib.hid (cbel hb2 c2.out)
      have q3 := Lib.hid (cbel hb2 c3.out)
      have q4 := Lib.hid (cbel hb2 c4.out)
      have qb := Lib.hid (cbel hb2 cb.out)
      have hH2 := Lib.hid (hH.out.below hb2)
      have hB2 := Lib.hid (hB.out.below hb2)
      have hR2' := Lib.hid (hR.out.below hb2)
      have hbw2 := xtrans hbw hb2
      clear c0 c1 c2 c3 c4 cb hH hB hR hbw hb2
      rcases hsel.out with hse | hse
      · have hgs := hgS hse
        subst hse
        clear hgS hgF hsel
        go_upto_region 8 with fail
        have c0 := q0
        have c1 := q1
        have c2 := q2
        have c3 := q3
        have c4 := q4
        have cb := qb
        clear q0 q1 q2 q3 q4 qb
        refine wp_region_growL 26 [fixd (.pointer (some ⟨w.heap.size, 0, none⟩)), fixd (.int .u32 (iv32 (x0))), fixd (.int .i64 g), fixd (.pointer (some ⟨w.heap.size, 1, none⟩)), fixd (.int .u32 (iv32 (x1))), fixd (.pointer (some ⟨w.heap.size, 2, none⟩)), fixd (.int .u32 (iv32 (x2))), fixd (.pointer (some ⟨w.heap.size, 3, none⟩)), fixd (.int .u32 (iv32 (x3))), fixd (.int .u32 (iv32 (fv))), fixd (.int .u32 (iv32 (add32 x0 fv))), fixd (.int .i64 n), fixd (.pointer (some ⟨w.heap.size + 1, n, none⟩)), fixd (.int .u32 (iv32 (bn))), fixd (.int .u32 (iv32 (add32 (add32 x0 fv) bn))), fixd (.bool true), fixd (.int .i64 r), fixd (.int .u32 (iv32 (kv))), fixd (.int .u32 (iv32 (add32 (add32 (add32 x0 fv) bn) kv))), fixd (.int .i64 r), fixd (.int .i64 n), fixd (.int .i64 tn), fixd (.int .u32 (iv32 (rol32 (add32 (add32 (add32 x0 fv) bn) kv) tn))), fixd (.pointer (some ⟨w.heap.size, 4, none⟩)), fixd (.int .u32 (iv32 (x4))), fixd (.int .u32 (iv32 (add32 (rol32 (add32 (add32 (add32 x0 fv) bn) kv) tn) x4)))] (by kernel_rfl) (by kernel_rfl) ?_
        simp only [List.take_succ_cons, List.take_zero, List.drop_succ_cons, List.drop_zero]
        try simp only [Act.put, List.setIfInBounds_toArray, List.set_cons_succ, List.set_cons_zero, List.nil_append, List.cons_append]
        refine wpGrowV_fix _ rfl rfl (fun W hb _ => by go_simp; first | exact xrefl W | exact ⟨rfl, xrefl W⟩) ?_
        try simp only [Act.put, List.setIfInBounds_toArray, List.set_cons_succ, List.set_cons_zero, List.nil_append, List.cons_append]
        refine wpGrowV_fix _ rfl rfl (fun W hb _ => by have c := cbel hb c0.out; go_simp; first | exact xrefl W | exact ⟨rfl, xrefl W⟩) ?_
        try simp only [Act.put, List.setIfInBounds_toArray, List.set_cons_succ, List.set_cons_zero, List.nil_append, List.cons_append]
        refine wpGrowV_fix _ rfl rfl (fun W hb _ => by go_simp; first | exact xrefl W | exact ⟨rfl, xrefl W⟩) ?_
        try simp only [Act.put, List.setIfInBounds_toArray, List.set_cons_succ, List.set_cons_zero, List.nil_append, List.cons_append]
        refine wpGrowV_fix _ rfl rfl (fun W hb _ => by go_simp; first | exact xrefl W | exact ⟨rfl, xrefl W⟩) ?_
        try simp only [Act.put, List.setIfInBounds_toArray, List.set_cons_succ, List.set_cons_zero, List.nil_append, List.cons_append]
        refine wpGrowV_fix _ rfl rfl (fun W hb _ => by have c := cbel hb c1.out; go_simp; first | exact xrefl W | exact ⟨rfl, xrefl W⟩) ?_
        try simp only [Act.put, List.setIfInBounds_toArray, List.set_cons_succ, List.set_cons_zero, List.nil_append, List.cons_append]
        refine wpGrowV_fix _ rfl rfl (fun W hb _ => by go_simp; first | exact xrefl W | exact ⟨rfl, xrefl W⟩) ?_
        try simp only [Act.put, List.setIfInBounds_toArray, List.set_cons_succ, List.set_cons_zero, List.nil_append, List.cons_append]
        refine wpGrowV_fix _ rfl rfl (fun W hb _ => by have c := cbel hb c2.out; go_simp; first | exact xrefl W | exact ⟨rfl, xrefl W⟩) ?_
        try simp only [Act.put, List.setIfInBounds_toArray, List.set_cons_succ, List.set_cons_zero, List.nil_append, List.cons_append]
        refine wpGrowV_fix _ rfl rfl (fun W hb _ => by go_simp; first | exact xrefl W | exact ⟨rfl, xrefl W⟩) ?_
        try simp only [Act.put, List.setIfInBounds_toArray, List.set_cons_succ, List.set_cons_zero, List.nil_append, List.cons_append]
        refine wpGrowV_fix _ rfl rfl (fun W hb _ => by have c := cbel hb c3.out; go_simp; first | exact xrefl W | exact ⟨rfl, xrefl W⟩) ?_
        try simp only [Act.put, List.setIfInBounds_toArray, List.set_cons_succ, List.set_cons_zero, List.nil_append, List.cons_append]
        refine wpGrowV_fix (.int .u32 (iv32 (fv))) rfl rfl (fun W hb _ => ?_) ?_
        · go_simp
          go_at_call 41
          refine (hF.out W).mono ?_
          rintro e w' ⟨rfl, hb'⟩
          exact ⟨rfl, hb'⟩
        try simp only [Act.put, List.setIfInBounds_toArray, List.set_cons_succ, List.set_cons_zero, List.nil_append, List.cons_append]
        refine wpGrowV_fix _ rfl rfl (fun W hb _ => by go_simp; first | exact xrefl W | exact ⟨rfl, xrefl W⟩) ?_
        try simp only [Act.put, List.setIfInBounds_toArray, List.set_cons_succ, List.set_cons_zero, List.nil_append, List.cons_append]
        refine wpGrowV_fix _ rfl rfl (fun W hb _ => by go_simp; first | exact xrefl W | exact ⟨rfl, xrefl W⟩) ?_
        try simp only [Act.put, List.setIfInBounds_toArray, List.set_cons_succ, List.set_cons_zero, List.nil_append, List.cons_append]
        refine wpGrowV_fix _ rfl rfl (fun W hb _ => by go_simp; first | exact xrefl W | exact ⟨rfl, xrefl W⟩) ?_
        try simp only [Act.put, List.setIfInBounds_toArray, List.set_cons_succ, List.set_cons_zero, List.nil_append, List.cons_append]
        refine wpGrowV_fix _ rfl rfl (fun W hb _ => by have c := cbel hb cb.out; go_simp; first | exact xrefl W | exact ⟨rfl, xrefl W⟩) ?_
        try simp only [Act.put, List.setIfInBounds_toArray, List.set_cons_succ, List.set_cons_zero, List.nil_append, List.cons_append]
        refine wpGrowV_fix _ rfl rfl (fun W hb _ => by go_simp; first | exact xrefl W | exact ⟨rfl, xrefl W⟩) ?_
        try simp only [Act.put, List.setIfInBounds_toArray, List.set_cons_succ, List.set_cons_zero, List.nil_append, List.cons_append]
        refine wpGrowV_fix _ rfl rfl (fun W hb _ => by go_simp; first | exact xrefl W | exact ⟨rfl, xrefl W⟩) ?_
        try simp only [Act.put, List.setIfInBounds_toArray, List.set_cons_succ, List.set_cons_zero, List.nil_append, List.cons_append]
        refine wpGrowV_fix _ rfl rfl (fun W hb _ => by go_simp; first | exact xrefl W | exact ⟨rfl, xrefl W⟩) ?_
        try simp only [Act.put, List.setIfInBounds_toArray, List.set_cons_succ, List.set_cons_zero, List.nil_append, List.cons_append]
        refine wpGrowV_fix (.int .u32 (iv32 (kv))) rfl rfl (fun W hb _ => ?_) ?_
        · go_simp
          go_at_call 42
          refine (hN.out W).mono ?_
          rintro e w' ⟨rfl, hb'⟩
          exact ⟨rfl, hb'⟩
        try simp only [Act.put, List.setIfInBounds_toArray, List.set_cons_succ, List.set_cons_zero, List.nil_append, List.cons_append]
        refine wpGrowV_fix _ rfl rfl (fun W hb _ => by go_simp; first | exact xrefl W | exact ⟨rfl, xrefl W⟩) ?_
        try simp only [Act.put, List.setIfInBounds_toArray, List.set_cons_succ, List.set_cons_zero, List.nil_append, List.cons_append]
        refine wpGrowV_fix _ rfl rfl (fun W hb _ => by go_simp; first | exact xrefl W | exact ⟨rfl, xrefl W⟩) ?_
        try simp only [Act.put, List.setIfInBounds_toArray, List.set_cons_succ, List.set_cons_zero, List.nil_append, List.cons_append]
        refine wpGrowV_fix _ rfl rfl (fun W hb _ => by go_simp; first | exact xrefl W | exact ⟨rfl, xrefl W⟩) ?_
        try simp only [Act.put, List.setIfInBounds_toArray, List.set_cons_succ, List.set_cons_zero, List.nil_append, List.cons_append]
        refine wpGrowV_fix (.int .i64 tn) rfl rfl (fun W hb _ => ?_) ?_
        · go_simp
          go_at_call 43
          refine (hT.out W).mono ?_
          rintro e w' ⟨rfl, hb'⟩
          exact ⟨rfl, hb'⟩
        try simp only [Act.put, List.setIfInBounds_toArray, List.set_cons_succ, List.set_cons_zero, List.nil_append, List.cons_append]
        refine wpGrowV_fix (.int .u32 (iv32 (rol32 (add32 (add32 (add32 x0 fv) bn) kv) tn))) rfl rfl (fun W hb _ => ?_) ?_
        · go_simp
          go_at_call 40
          refine (hRt.out W).mono ?_
          rintro e w' ⟨rfl, hb'⟩
          exact ⟨rfl, hb'⟩
        try simp only [Act.put, List.setIfInBounds_toArray, List.set_cons_succ, List.set_cons_zero, List.nil_append, List.cons_append]
        refine wpGrowV_fix _ rfl rfl (fun W hb _ => by go_simp; first | exact xrefl W | exact ⟨rfl, xrefl W⟩) ?_
        try simp only [Act.put, List.setIfInBounds_toArray, List.set_cons_succ, List.set_cons_zero, List.nil_append, List.cons_append]
        refine wpGrowV_fix _ rfl rfl (fun W hb _ => by have c := cbel hb c4.out; go_simp; first | exact xrefl W | exact ⟨rfl, xrefl W⟩) ?_
        try simp only [Act.put, List.setIfInBounds_toArray, List.set_cons_succ, List.set_cons_zero, List.nil_append, List.cons_append]
        refine wpGrowV_fix _ rfl rfl (fun W hb _ => by go_simp; first | exact xrefl W | exact ⟨rfl, xrefl W⟩) ?_
        try simp only [Act.put, List.setIfInBounds_toArray, List.set_cons_succ, List.set_cons_zero, List.nil_append, List.cons_append]
        refine wpGrowV_nil fun Wa hba _ => ?_
        have d1 := Lib.hid (cbel hba c1.out)
        have d2 := Lib.hid (cbel hba c2.out)
        have d3 := Lib.hid (cbel hba c3.out)
        have d4 := Lib.hid (cbel hba c4.out)
        have hHa := Lib.hid (hH2.out.below hba)
        have hBa := Lib.hid (hB2.out.below hba)
        have hRa := Lib.hid (hR2'.out.below hba)
        have hba2 := xtrans hbw2 hba
        obtain ⟨tv, htv⟩ : ∃ tv, tv = add32 (rol32 (add32 (add32 (add32 x0 fv) bn) kv) tn) x4 := ⟨_, rfl⟩
        rw [← htv] at hstep ⊢
        replace htv := Lib.hid htv
        clear c0 c1 c2 c3 c4 cb hH2 hB2 hR2' hbw2 hba
        go_upto_region 9 with fail
        refine wp_region_growL 11 [fixd (.pointer (some ⟨w.heap.size, 4, none⟩)), fixd (.int .u32 (iv32 (x4))), fixd (.int .u32 (iv32 (tv))), fixd (.pointer (some ⟨w.heap.size, 1, none⟩)), fixd (.int .u32 (iv32 (x1))), fixd (.pointer (some ⟨w.heap.size, 2, none⟩)), fixd (.int .u32 (iv32 (x2))), fixd (.int .u32 (iv32 (rol32 x2 10))), fixd (.pointer (some ⟨w.heap.size, 3, none⟩)), fixd (.int .u32 (iv32 (x3))), fixd (.agg #[.int .u32 (iv32 x4), .int .u32 (iv32 tv), .int .u32 (iv32 x1), .int .u32 (iv32 (rol32 x2 10)), .int .u32 (iv32 x3)])] (by kernel_rfl) (by kernel_rfl) ?_
        simp only [List.take_succ_cons, List.take_zero, List.drop_succ_cons, List.drop_zero]
        try simp only [Act.put, List.setIfInBounds_toArray, List.set_cons_succ, List.set_cons_zero, List.nil_append, List.cons_append]
        refine wpGrowV_fix _ rfl rfl (fun W hb _ => by go_simp; first | exact xrefl W | exact ⟨rfl, xrefl W⟩) ?_
        try simp only [Act.put, List.setIfInBounds_toArray, List.set_cons_succ, List.set_cons_zero, List.nil_append, List.cons_append]
        refine wpGrowV_fix _ rfl rfl (fun W hb _ => by have c := cbel hb d4.out; go_simp; first | exact xrefl W | exact ⟨rfl, xrefl W⟩) ?_
        try simp only [Act.put, List.setIfInBounds_toArray, List.set_cons_succ, List.set_cons_zero, List.nil_append, List.cons_append]
        refine wpGrowV_fix _ rfl rfl (fun W hb _ => by go_simp; first | exact xrefl W | exact ⟨rfl, xrefl W⟩) ?_
        try simp only [Act.put, List.setIfInBounds_toArray, List.set_cons_succ, List.set_cons_zero, List.nil_append, List.cons_append]
        refine wpGrowV_fix _ rfl rfl (fun W hb _ => by go_simp; first | exact xrefl W | exact ⟨rfl, xrefl W⟩) ?_
        try simp only [Act.put, List.setIfInBounds_toArray, List.set_cons_succ, List.set_cons_zero, List.nil_append, List.cons_append]
        refine wpGrowV_fix _ rfl rfl (fun W hb _ => by have c := cbel hb d1.out; go_simp; first | exact xrefl W | exact ⟨rfl, xrefl W⟩) ?_
        try simp only [Act.put, List.setIfInBounds_toArray, List.set_cons_succ, List.set_cons_zero, List.nil_append, List.cons_append]
        refine wpGrowV_fix _ rfl rfl (fun W hb _ => by go_simp; first | exact xrefl W | exact ⟨rfl, xrefl W⟩) ?_
        try simp only [Act.put, List.setIfInBounds_toArray, List.set_cons_succ, List.set_cons_zero, List.nil_append, List.cons_append]
        refine wpGrowV_fix _ rfl rfl (fun W hb _ => by have c := cbel hb d2.out; go_simp; first | exact xrefl W | exact ⟨rfl, xrefl W⟩) ?_
        try simp only [Act.put, List.setIfInBounds_toArray, List.set_cons_succ, List.set_cons_zero, List.nil_append, List.cons_append]
        refine wpGrowV_fix (.int .u32 (iv32 (rol32 x2 10))) rfl rfl (fun W hb _ => ?_) ?_
        · go_simp
          go_at_call 40
          refine (hR2.out W).mono ?_
          rintro e w' ⟨rfl, hb'⟩
          exact ⟨rfl, hb'⟩
        try simp only [Act.put, List.setIfInBounds_toArray, List.set_cons_succ, List.set_cons_zero, List.nil_append, List.cons_append]
        refine wpGrowV_fix _ rfl rfl (fun W hb _ => by go_simp; first | exact xrefl W | exact ⟨rfl, xrefl W⟩) ?_
        try simp only [Act.put, List.setIfInBounds_toArray, List.set_cons_succ, List.set_cons_zero, List.nil_append, List.cons_append]
        refine wpGrowV_fix _ rfl rfl (fun W hb _ => by have c := cbel hb d3.out; go_simp; first | exact xrefl W | exact ⟨rfl, xrefl W⟩) ?_
        try simp only [Act.put, List.setIfInBounds_toArray, List.set_cons_succ, List.set_cons_zero, List.nil_append, List.cons_append]
        refine wpGrowV_fix _ rfl rfl (fun W hb _ => by go_simp; first | exact xrefl W | exact ⟨rfl, xrefl W⟩) ?_
        try simp only [Act.put, List.setIfInBounds_toArray, List.set_cons_succ, List.set_cons_zero, List.nil_append, List.cons_append]
        refine wpGrowV_nil fun Wb hbb _ => ?_
        have hHb := hHa.out.below hbb
        have hBb := hBa.out.below hbb
        have hRb := hRa.out.below hbb
        have hbb2 := xtrans hba2 hbb
        have hlen : ([iv32 x4, iv32 tv, iv32 x1, iv32 (rol32 x2 10), iv32 x3] : List Int).length = 5 := rfl
        have hnew : [iv32 x4, iv32 tv, iv32 x1, iv32 (rol32 x2 10), iv32 x3] = rowI 5 (lineTo true b h (k + 1)) := by rw [hnext.out, hstep.out]; rfl
        generalize hNE : ([iv32 x4, iv32 tv, iv32 x1, iv32 (rol32 x2 10), iv32 x3] : List Int) = NE at hlen hnew
        replace hNE := Lib.hid hNE
        replace hnew := Lib.hid hnew
        replace hHb := Lib.hid hHb
        replace hBb := Lib.hid hBb
        replace hRb := Lib.hid hRb
        have hlo : NE.length = (rowI 5 s).length := by rw [rowI_len, hlen]
        have hinf : (Try.prog.info? 29).map (·.size) = some NE.length := by rw [hlen]; kernel_rfl
        replace hlo := Lib.hid hlo
        replace hinf := Lib.hid hinf
        go_wp2_with (refine wpList_store_blk rfl 29 _ _ rfl w.heap.size rfl .u32 29 (rowI 5 s) NE hHb.out (by rw [← hNE.out]; rfl) hlo.out hinf.out ?_; intro Wc hHc hoc)
        rw [hnew.out] at hHc
        exact ⟨⟨k + 1, by omega, rfl, Lib.hid hHc, Lib.hid (hBb.out.only hoc (by omega)), Lib.hid (hRb.out.only hoc (by omega)), hoc.below hbb2 hbb2.size (by rintro i rfl; omega)⟩, by simp [intOf]; omega⟩
      · have hgs := hgF hse
        have hF' := hF.out
        rw [← hgs] at hF'
        replace hF := Lib.hid hF'
        replace hgs := Lib.hid hgs
        clear hF'
        subst hse
        clear hgS hgF hsel
        go_upto_region 8 with fail
        have c0 := q0
        have c1 := q1
        have c2 := q2
        have c3 := q3
        have c4 := q4
        have cb := qb
        clear q0 q1 q2 q3 q4 qb
        refine wp_region_growL 26 [fixd (.pointer (some ⟨w.heap.size, 0, none⟩)), fixd (.int .u32 (iv32 (x0))), fixd (.int .i64 r), fixd (.pointer (some ⟨w.heap.size, 1, none⟩)), fixd (.int .u32 (iv32 (x1))), fixd (.pointer (some ⟨w.heap.size, 2, none⟩)), fixd (.int .u32 (iv32 (x2))), fixd (.pointer (some ⟨w.heap.size, 3, none⟩)), fixd (.int .u32 (iv32 (x3))), fixd (.int .u32 (iv32 (fv))), fixd (.int .u32 (iv32 (add32 x0 fv))), fixd (.int .i64 n), fixd (.pointer (some ⟨w.heap.size + 1, n, none⟩)), fixd (.int .u32 (iv32 (bn))), fixd (.int .u32 (iv32 (add32 (add32 x0 fv) bn))), fixd (.bool false), fixd (.int .i64 r), fixd (.int .u32 (iv32 (kv))), fixd (.int .u32 (iv32 (add32 (add32 (add32 x0 fv) bn) kv))), fixd (.int .i64 r), fixd (.int .i64 n), fixd (.int .i64 tn), fixd (.int .u32 (iv32 (rol32 (add32 (add32 (add32 x0 fv) bn) kv) tn))), fixd (.pointer (some ⟨w.heap.size, 4, none⟩)), fixd (.int .u32 (iv32 (x4))), fixd (.int .u32 (iv32 (add32 (rol32 (add32 (add32 (add32 x0 fv) bn) kv) tn) x4)))] (by kernel_rfl) (by kernel_rfl) ?_
        simp only [List.take_succ_cons, List.take_zero, List.drop_succ_cons, List.drop_zero]
        try simp only [Act.put, List.setIfInBounds_toArray, List.set_cons_succ, List.set_cons_zero, List.nil_append, List.cons_append]
        refine wpGrowV_fix _ rfl rfl (fun W hb _ => by go_simp; first | exact xrefl W | exact ⟨rfl, xrefl W⟩) ?_
        try simp only [Act.put, List.setIfInBounds_toArray, List.set_cons_succ, List.set_cons_zero, List.nil_append, List.cons_append]
        refine wpGrowV_fix _ rfl rfl (fun W hb _ => by have c := cbel hb c0.out; go_simp; first | exact xrefl W | exact ⟨rfl, xrefl W⟩) ?_
        try simp only [Act.put, List.setIfInBounds_toArray, List.set_cons_succ, List.set_cons_zero, List.nil_append, List.cons_append]
        refine wpGrowV_fix _ rfl rfl (fun W hb _ => by go_simp; first | exact xrefl W | exact ⟨rfl, xrefl W⟩) ?_
        try simp only [Act.put, List.setIfInBounds_toArray, List.set_cons_succ, List.set_cons_zero, List.nil_append, List.cons_append]
        refine wpGrowV_fix _ rfl rfl (fun W hb _ => by go_simp; first | exact xrefl W | exact ⟨rfl, xrefl W⟩) ?_
        try simp only [Act.put, List.setIfInBounds_toArray, List.set_cons_succ, List.set_cons_zero, List.nil_append, List.cons_append]
        refine wpGrowV_fix _ rfl rfl (fun W hb _ => by have c := cbel hb c1.out; go_simp; first | exact xrefl W | exact ⟨rfl, xrefl W⟩) ?_
        try simp only [Act.put, List.setIfInBounds_toArray, List.set_cons_succ, List.set_cons_zero, List.nil_append, List.cons_append]
        refine wpGrowV_fix _ rfl rfl (fun W hb _ => by go_simp; first | exact xrefl W | exact ⟨rfl, xrefl W⟩) ?_
        try simp only [Act.put, List.setIfInBounds_toArray, List.set_cons_succ, List.set_cons_zero, List.nil_append, List.cons_append]
        refine wpGrowV_fix _ rfl rfl (fun W hb _ => by have c := cbel hb c2.out; go_simp; first | exact xrefl W | exact ⟨rfl, xrefl W⟩) ?_
        try simp only [Act.put, List.setIfInBounds_toArray, List.set_cons_succ, List.set_cons_zero, List.nil_append, List.cons_append]
        refine wpGrowV_fix _ rfl rfl (fun W hb _ => by go_simp; first | exact xrefl W | exact ⟨rfl, xrefl W⟩) ?_
        try simp only [Act.put, List.setIfInBounds_toArray, List.set_cons_succ, List.set_cons_zero, List.nil_append, List.cons_append]
        refine wpGrowV_fix _ rfl rfl (fun W hb _ => by have c := cbel hb c3.out; go_simp; first | exact xrefl W | exact ⟨rfl, xrefl W⟩) ?_
        try simp only [Act.put, List.setIfInBounds_toArray, List.set_cons_succ, List.set_cons_zero, List.nil_append, List.cons_append]
        refine wpGrowV_fix (.int .u32 (iv32 (fv))) rfl rfl (fun W hb _ => ?_) ?_
        · go_simp
          go_at_call 41
          refine (hF.out W).mono ?_
          rintro e w' ⟨rfl, hb'⟩
          exact ⟨rfl, hb'⟩
        try simp only [Act.put, List.setIfInBounds_toArray, List.set_cons_succ, List.set_cons_zero, List.nil_append, List.cons_append]
        refine wpGrowV_fix _ rfl rfl (fun W hb _ => by go_simp; first | exact xrefl W | exact ⟨rfl, xrefl W⟩) ?_
        try simp only [Act.put, List.setIfInBounds_toArray, List.set_cons_succ, List.set_cons_zero, List.nil_append, List.cons_append]
        refine wpGrowV_fix _ rfl rfl (fun W hb _ => by go_simp; first | exact xrefl W | exact ⟨rfl, xrefl W⟩) ?_
        try simp only [Act.put, List.setIfInBounds_toArray, List.set_cons_succ, List.set_cons_zero, List.nil_append, List.cons_append]
        refine wpGrowV_fix _ rfl rfl (fun W hb _ => by go_simp; first | exact xrefl W | exact ⟨rfl, xrefl W⟩) ?_
        try simp only [Act.put, List.setIfInBounds_toArray, List.set_cons_succ, List.set_cons_zero, List.nil_append, List.cons_append]
        refine wpGrowV_fix _ rfl rfl (fun W hb _ => by have c := cbel hb cb.out; go_simp; first | exact xrefl W | exact ⟨rfl, xrefl W⟩) ?_
        try simp only [Act.put, List.setIfInBounds_toArray, List.set_cons_succ, List.set_cons_zero, List.nil_append, List.cons_append]
        refine wpGrowV_fix _ rfl rfl (fun W hb _ => by go_simp; first | exact xrefl W | exact ⟨rfl, xrefl W⟩) ?_
        try simp only [Act.put, List.setIfInBounds_toArray, List.set_cons_succ, List.set_cons_zero, List.nil_append, List.cons_append]
        refine wpGrowV_fix _ rfl rfl (fun W hb _ => by go_simp; first | exact xrefl W | exact ⟨rfl, xrefl W⟩) ?_
        try simp only [Act.put, List.setIfInBounds_toArray, List.set_cons_succ, List.set_cons_zero, List.nil_append, List.cons_append]
        refine wpGrowV_fix _ rfl rfl (fun W hb _ => by go_simp; first | exact xrefl W | exact ⟨rfl, xrefl W⟩) ?_
        try simp only [Act.put, List.setIfInBounds_toArray, List.set_cons_succ, List.set_cons_zero, List.nil_append, List.cons_append]
        refine wpGrowV_fix (.int .u32 (iv32 (kv))) rfl rfl (fun W hb _ => ?_) ?_
        · go_simp
          go_at_call 42
          refine (hN.out W).mono ?_
          rintro e w' ⟨rfl, hb'⟩
          exact ⟨rfl, hb'⟩
        try simp only [Act.put, List.setIfInBounds_toArray, List.set_cons_succ, List.set_cons_zero, List.nil_append, List.cons_append]
        refine wpGrowV_fix _ rfl rfl (fun W hb _ => by go_simp; first | exact xrefl W | exact ⟨rfl, xrefl W⟩) ?_
        try simp only [Act.put, List.setIfInBounds_toArray, List.set_cons_succ, List.set_cons_zero, List.nil_append, List.cons_append]
        refine wpGrowV_fix _ rfl rfl (fun W hb _ => by go_simp; first | exact xrefl W | exact ⟨rfl, xrefl W⟩) ?_
        try simp only [Act.put, List.setIfInBounds_toArray, List.set_cons_succ, List.set_cons_zero, List.nil_append, List.cons_append]
        refine wpGrowV_fix _ rfl rfl (fun W hb _ => by go_simp; first | exact xrefl W | exact ⟨rfl, xrefl W⟩) ?_
        try simp only [Act.put, List.setIfInBounds_toArray, List.set_cons_succ, List.set_cons_zero, List.nil_append, List.cons_append]
        refine wpGrowV_fix (.int .i64 tn) rfl rfl (fun W hb _ => ?_) ?_
        · go_simp
          go_at_call 43
          refine (hT.out W).mono ?_
          rintro e w' ⟨rfl, hb'⟩
          exact ⟨rfl, hb'⟩
        try simp only [Act.put, List.setIfInBounds_toArray, List.set_cons_succ, List.set_cons_zero, List.nil_append, List.cons_append]
        refine wpGrowV_fix (.int .u32 (iv32 (rol32 (add32 (add32 (add32 x0 fv) bn) kv) tn))) rfl rfl (fun W hb _ => ?_) ?_
        · go_simp
          go_at_call 40
          refine (hRt.out W).mono ?_
          rintro e w' ⟨rfl, hb'⟩
          exact ⟨rfl, hb'⟩
        try simp only [Act.put, List.setIfInBounds_toArray, List.set_cons_succ, List.set_cons_zero, List.nil_append, List.cons_append]
        refine wpGrowV_fix _ rfl rfl (fun W hb _ => by go_simp; first | exact xrefl W | exact ⟨rfl, xrefl W⟩) ?_
        try simp only [Act.put, List.setIfInBounds_toArray, List.set_cons_succ, List.set_cons_zero, List.nil_append, List.cons_append]
        refine wpGrowV_fix _ rfl rfl (fun W hb _ => by have c := cbel hb c4.out; go_simp; first | exact xrefl W | exact ⟨rfl, xrefl W⟩) ?_
        try simp only [Act.put, List.setIfInBounds_toArray, List.set_cons_succ, List.set_cons_zero, List.nil_append, List.cons_append]
        refine wpGrowV_fix _ rfl rfl (fun W hb _ => by go_simp; first | exact xrefl W | exact ⟨rfl, xrefl W⟩) ?_
        try simp only [Act.put, List.setIfInBounds_toArray, List.set_cons_succ, List.set_cons_zero, List.nil_append, List.cons_append]
        refine wpGrowV_nil fun Wa hba _ => ?_
        have d1 := Lib.hid (cbel hba c1.out)
        have d2 := Lib.hid (cbel hba c2.out)
        have d3 := Lib.hid (cbel hba c3.out)
        have d4 := Lib.hid (cbel hba c4.out)
        have hHa := Lib.hid (hH2.out.below hba)
        have hBa := Lib.hid (hB2.out.below hba)
        have hRa := Lib.hid (hR2'.out.below hba)
        have hba2 := xtrans hbw2 hba
        obtain ⟨tv, htv⟩ : ∃ tv, tv = add32 (rol32 (add32 (add32 (add32 x0 fv) bn) kv) tn) x4 := ⟨_, rfl⟩
        rw [← htv] at hstep ⊢
        replace htv := Lib.hid htv
        clear c0 c1 c2 c3 c4 cb hH2 hB2 hR2' hbw2 hba
        go_upto_region 9 with fail
        refine wp_region_growL 11 [fixd (.pointer (some ⟨w.heap.size, 4, none⟩)), fixd (.int .u32 (iv32 (x4))), fixd (.int .u32 (iv32 (tv))), fixd (.pointer (some ⟨w.heap.size, 1, none⟩)), fixd (.int .u32 (iv32 (x1))), fixd (.pointer (some ⟨w.heap.size, 2, none⟩)), fixd (.int .u32 (iv32 (x2))), fixd (.int .u32 (iv32 (rol32 x2 10))), fixd (.pointer (some ⟨w.heap.size, 3, none⟩)), fixd (.int .u32 (iv32 (x3))), fixd (.agg #[.int .u32 (iv32 x4), .int .u32 (iv32 tv), .int .u32 (iv32 x1), .int .u32 (iv32 (rol32 x2 10)), .int .u32 (iv32 x3)])] (by kernel_rfl) (by kernel_rfl) ?_
        simp only [List.take_succ_cons, List.take_zero, List.drop_succ_cons, List.drop_zero]
        try simp only [Act.put, List.setIfInBounds_toArray, List.set_cons_succ, List.set_cons_zero, List.nil_append, List.cons_append]
        refine wpGrowV_fix _ rfl rfl (fun W hb _ => by go_simp; first | exact xrefl W | exact ⟨rfl, xrefl W⟩) ?_
        try simp only [Act.put, List.setIfInBounds_toArray, List.set_cons_succ, List.set_cons_zero, List.nil_append, List.cons_append]
        refine wpGrowV_fix _ rfl rfl (fun W hb _ => by have c := cbel hb d4.out; go_simp; first | exact xrefl W | exact ⟨rfl, xrefl W⟩) ?_
        try simp only [Act.put, List.setIfInBounds_toArray, List.set_cons_succ, List.set_cons_zero, List.nil_append, List.cons_append]
        refine wpGrowV_fix _ rfl rfl (fun W hb _ => by go_simp; first | exact xrefl W | exact ⟨rfl, xrefl W⟩) ?_
        try simp only [Act.put, List.setIfInBounds_toArray, List.set_cons_succ, List.set_cons_zero, List.nil_append, List.cons_append]
        refine wpGrowV_fix _ rfl rfl (fun W hb _ => by go_simp; first | exact xrefl W | exact ⟨rfl, xrefl W⟩) ?_
        try simp only [Act.put, List.setIfInBounds_toArray, List.set_cons_succ, List.set_cons_zero, List.nil_append, List.cons_append]
        refine wpGrowV_fix _ rfl rfl (fun W hb _ => by have c := cbel hb d1.out; go_simp; first | exact xrefl W | exact ⟨rfl, xrefl W⟩) ?_
        try simp only [Act.put, List.setIfInBounds_toArray, List.set_cons_succ, List.set_cons_zero, List.nil_append, List.cons_append]
        refine wpGrowV_fix _ rfl rfl (fun W hb _ => by go_simp; first | exact xrefl W | exact ⟨rfl, xrefl W⟩) ?_
        try simp only [Act.put, List.setIfInBounds_toArray, List.set_cons_succ, List.set_cons_zero, List.nil_append, List.cons_append]
        refine wpGrowV_fix _ rfl rfl (fun W hb _ => by have c := cbel hb d2.out; go_simp; first | exact xrefl W | exact ⟨rfl, xrefl W⟩) ?_
        try simp only [Act.put, List.setIfInBounds_toArray, List.set_cons_succ, List.set_cons_zero, List.nil_append, List.cons_append]
        refine wpGrowV_fix (.int .u32 (iv32 (rol32 x2 10))) rfl rfl (fun W hb _ => ?_) ?_
        · go_simp
          go_at_call 40
          refine (hR2.out W).mono ?_
          rintro e w' ⟨rfl, hb'⟩
          exact ⟨rfl, hb'⟩
        try simp only [Act.put, List.setIfInBounds_toArray, List.set_cons_succ, List.set_cons_zero, List.nil_append, List.cons_append]
        refine wpGrowV_fix _ rfl rfl (fun W hb _ => by go_simp; first | exact xrefl W | exact ⟨rfl, xrefl W⟩) ?_
        try simp only [Act.put, List.setIfInBounds_toArray, List.set_cons_succ, List.set_cons_zero, List.nil_append, List.cons_append]
        refine wpGrowV_fix _ rfl rfl (fun W hb _ => by have c := cbel hb d3.out; go_simp; first | exact xrefl W | exact ⟨rfl, xrefl W⟩) ?_
        try simp only [Act.put, List.setIfInBounds_toArray, List.set_cons_succ, List.set_cons_zero, List.nil_append, List.cons_append]
        refine wpGrowV_fix _ rfl rfl (fun W hb _ => by go_simp; first | exact xrefl W | exact ⟨rfl, xrefl W⟩) ?_
        try simp only [Act.put, List.setIfInBounds_toArray, List.set_cons_succ, List.set_cons_zero, List.nil_append, List.cons_append]
        refine wpGrowV_nil fun Wb hbb _ => ?_
        have hHb := hHa.out.below hbb
        have hBb := hBa.out.below hbb
        have hRb := hRa.out.below hbb
        have hbb2 := xtrans hba2 hbb
        have hlen : ([iv32 x4, iv32 tv, iv32 x1, iv32 (rol32 x2 10), iv32 x3] : List Int).length = 5 := rfl
        have hnew : [iv32 x4, iv32 tv, iv32 x1, iv32 (rol32 x2 10), iv32 x3] = rowI 5 (lineTo false b h (k + 1)) := by rw [hnext.out, hstep.out]; rfl
        generalize hNE : ([iv32 x4, iv32 tv, iv32 x1, iv32 (rol32 x2 10), iv32 x3] : List Int) = NE at hlen hnew
        replace hNE := Lib.hid hNE
        replace hnew := Lib.hid hnew
        replace hHb := Lib.hid hHb
        replace hBb := Lib.hid hBb
        replace hRb := Lib.hid hRb
        have hlo : NE.length = (rowI 5 s).length := by rw [rowI_len, hlen]
        have hinf : (Try.prog.info? 29).map (·.size) = some NE.length := by rw [hlen]; kernel_rfl
        replace hlo := Lib.hid hlo
        replace hinf := Lib.hid hinf
        go_wp2_with (refine wpList_store_blk rfl 29 _ _ rfl w.heap.size rfl .u32 29 (rowI 5 s) NE hHb.out (by rw [← hNE.out]; rfl) hlo.out hinf.out ?_; intro Wc hHc hoc)
        rw [hnew.out] at hHc
        exact ⟨⟨k + 1, by omega, rfl, Lib.hid hHc, Lib.hid (hBb.out.only hoc (by omega)), Lib.hid (hRb.out.only hoc (by omega)), hoc.below hbb2 hbb2.size (by rintro i rfl; omega)⟩, by simp [intOf]; omega⟩
    · obtain rfl : k = 80 := by omega
      clear hlt
      have hLl : (rowI 5 (lineTo second b h 80)).length = 5 := rowI_len _ _
      rw [show rowI 5 (lineTo second b h 80) = rowI 5 (lineF second b h) from rfl] at hH hLl
      generalize hLF : rowI 5 (lineF second b h) = LF at hH hLl
      replace hLF := Lib.hid hLF
      have hinf : (Try.prog.info? 29).map (·.size) = some LF.length := by rw [hLl]; kernel_rfl
      have hrl : LF.length = (List.replicate 5 (0 : Int)).length := by rw [hLl, List.length_replicate]
      replace hinf := Lib.hid hinf
      replace hrl := Lib.hid hrl
      go_wp2_with (first
        | (refine wpList_load_blk rfl 29 _ rfl w.heap.size rfl .u32 29 LF _ _ hH.out Try.underlying29 hinf.out ?_)
        | (refine wpList_store_blk rfl 29 _ _ rfl (w.heap.size + 1 + 1) rfl .u32 29 (List.replicate 5 0) LF hR.out rfl hrl.out hinf.out ?_; intro w7 h7 ho7))
      refine ret_blk rfl (w.heap.size + 1 + 1) .u32 29 LF _ _ rfl h7 Try.underlying29 hinf.out rfl ⟨by rw [hLF.out], ?_⟩
      exact ho7.below hbw hbw.size (by rintro i rfl; omega)
end Go.Proofs.Ytfafancacfjodaa
