/- Texts of this claim, merged; no condition. -/
import Derived.Test.YtijkdabmegbcjaaGreatDoorT25
import Derived.Deep.MidRow
import Derived.Test.YtijkdabmegbcjaaGreatDoorT05
import Derived.Test.YtijkdabmegbcjaaGreatDoorTA
set_option linter.all false
namespace Go.Proofs.YtijkdabmegbcjaaGreatDoor
section
open Go.RowKit Go.Shelf
theorem lst_at {g : List Nat} {m : Nat} (h : g.length = m + 1) : lstN g = g[m]'(by omega) := by
  rw [lst_get (by omega)]
  congr 1; omega
theorem fixG_none {cs g : List Nat} (h : g.length < 2 ∨ (byN cs (lstN g) ≠ 86 ∧ byN cs (lstN g) ≠ 87)) : fixG cs g = none := by unfold fixG; rw [if_pos h]
theorem fixG_push {cs g : List Nat} {m : Nat} (h : g.length = m + 2) (hj : byN cs (lstN g) = 86 ∨ byN cs (lstN g) = 87) : fixG cs g = pushZ cs (g[m]'(by omega) : Nat) := by
  unfold fixG
  rw [if_neg (by omega), pushZ_nat]
  congr 1
  rw [List.getD_eq_getElem?_getD, List.getElem?_eq_getElem (by omega), Option.getD_some]
  congr 1
  omega
set_option maxRecDepth 100000 in
set_option maxHeartbeats 4000000 in
theorem fixedT_any (cs g : List Nat) (a po p : Option Addr) (c no qo q : Nat) (w : World) (h : CodeAt w a c cs) (hg : OpsAt w p q cs g) (h0 : g ≠ []) (hgl : g.length ≤ 200) (hgc : ∀ x ∈ g, x < cs.length) :
    Calls Tryz.prog 50 #[.agg #[.slice a cs.length c, .slice po no qo], .slice p g.length q] w fun e w' => e = .returned (optV (fixG cs g)) ∧ Below w.heap.size w w' := by
  have hB0 : Hid (BlkG ((w.alloc (.cells #[.slice a cs.length c, .slice po no qo] 73)).alloc (.cells #[.int .u64 0, .int .u64 0, .int .u64 0, .int .u64 0] 32)) (w.heap.size + 1) 32 [.int .u64 0, .int .u64 0, .int .u64 0, .int .u64 0]) := qh (by
    have := BlkG.new (w.alloc (.cells #[.slice a cs.length c, .slice po no qo] 73)) 32 [.int .u64 0, .int .u64 0, .int .u64 0, .int .u64 0]
    rwa [World.size_alloc] at this)
  have hb0 : Hid (Below w.heap.size w ((w.alloc (.cells #[.slice a cs.length c, .slice po no qo] 73)).alloc (.cells #[.int .u64 0, .int .u64 0, .int .u64 0, .int .u64 0] 32))) := qh (xalloc (xalloc (xrefl w) _) _)
  have hx0 : ((w.alloc (.cells #[.slice a cs.length c, .slice po no qo] 73)).alloc (.cells #[.int .u64 0, .int .u64 0, .int .u64 0, .int .u64 0] 32)).cell? ⟨w.heap.size, 0, none⟩ = some (.slice a cs.length c) := ((BlkG.new w _ [.slice a cs.length c, .slice po no qo]).alloc _).cell 0 (by show 0 < 2; omega)
  have huw := Tryz.underlying32
  obtain ⟨w0, hw0⟩ : ∃ w0, ((w.alloc (.cells #[.slice a cs.length c, .slice po no qo] 73)).alloc (.cells #[.int .u64 0, .int .u64 0, .int .u64 0, .int .u64 0] 32)) = w0 := ⟨_, rfl⟩
  rw [hw0] at hB0 hb0 hx0
  replace hw0 := qh hw0
  have ENDN : ∀ {ww : World}, True := fun {_} => trivial
  clear ENDN
  obtain ⟨n1, hn1⟩ : ∃ n1, g.length = n1 + 1 := ⟨g.length - 1, by have := List.length_pos_iff.2 h0; omega⟩
  obtain ⟨b, o, rfl, hr⟩ := hg.elt n1 (by omega)
  have hl := lst_at hn1
  rw [← hl] at hr
  have hc1 := cbel hb0.out (hr 1 _ rfl)
  by_cases hlen : g.length < 2
  · have hn : n1 = 0 := by omega
    subst hn
    rw [fixG_none (.inl hlen), hn1]
    clear hlen hr hc1 hg hgc hl h hgl h0
    go_enter Tryz.func50, Tryz.ntmps50
    go_wp2_with fail
    refine wp_scope_fwd 0 rfl ?_
    go_upto_region 1 with fail
    refine wp_world (w' := w0) hw0.out ?_
    go_wp2
    go_step3
    simp only [Exit.then, Exit.inBlock, fwd_goto]
    refine ⟨trivial, ?_⟩
    go_wp2_with (first
      | (refine wpList_load_blkG rfl 32 _ rfl (w.heap.size + 1) rfl 32 _ _ hB0.out huw rfl (by kernel_rfl) ?_)
      | (refine wpList_store_blkG rfl 32 _ _ rfl (w.heap.size + 1) rfl 32 _ [.int .u64 0, .int .u64 0, .int .u64 0, .int .u64 0] hB0.out rfl rfl (by kernel_rfl) rfl ?_; intro w6 hX6 ho6; replace hX6 := qh hX6; have hb6 := qh (ho6.below hb0.out hb0.out.size (by rintro k rfl; omega)); clear ho6))
    rw [Exit.noGoto_ret]
    exact bodyPost_ret (results_blkG2 (p := 4) rfl _ _ (w.heap.size + 1) 32 _ _ rfl hX6.out huw rfl (by kernel_rfl)) rfl ⟨rfl, hb6.out⟩
  · obtain ⟨m, hm⟩ : ∃ m, n1 = m + 1 := ⟨n1 - 1, by omega⟩
    subst hm
    have hgm : g.length = m + 2 := by omega
    have hm2 : m ≤ 198 := by omega
    have hmI : ¬ ((m : Int) + 2 < 2) := by omega
    have hmI2 : (2 : Int) ≤ (m : Int) + 2 := by omega
    obtain ⟨b', o', e', hr2⟩ := hg.elt m (by omega)
    cases e'
    have hc2 := cbel hb0.out (hr2 0 _ rfl)
    rw [Nat.add_zero] at hc2
    have hyl := hgc g[m] (List.getElem_mem (by omega))
    have hpush0 := fun W (hW : Below w.heap.size w W) => push_any cs (g[m]'(by omega) : Nat) a c W (h.below hW)
    by_cases hj : byN cs (lstN g) = 86 ∨ byN cs (lstN g) = 87
    · rw [fixG_push hgm hj]
      generalize pushZ cs (g[m]'(by omega) : Nat) = Z at *
      rw [hgm]
      have hj2 : (byN cs (lstN g) = 86) ∨ (byN cs (lstN g) ≠ 86 ∧ byN cs (lstN g) = 87) := by omega
      generalize byN cs (lstN g) = y at *
      generalize hx : (g[m]'(by omega)) = x at *
      clear hg hgc hl h hgl h0 hn1 hlen hgm hr hr2 hx hyl hj
      generalize hL : (wordL (Z.getD 0)).map (Value.int .u64) = L
      have hpush : Hid (∀ W, Below w.heap.size w W → Calls Tryz.prog 84 #[.slice a cs.length c, .int .i64 x] W fun e w' => e = .returned (.tuple #[.agg L.toArray, .bool Z.isSome]) ∧ Below W.heap.size W w') := qh fun W hW => by
        rw [← hL]; exact hpush0 W hW
      have hfin : Hid (optV Z = .tuple #[.agg L.toArray, .bool Z.isSome]) := qh (by rw [← hL]; rfl)
      replace hL := qh hL
      clear hpush0
      generalize Z.isSome = zb at *
      rcases hj2 with hy | ⟨hy1, hy⟩
      · have hy1 : ((y : Int) != 86) = false := by simp; omega
        have hy2 : ((y : Int) == 86) = true := by simp; omega
        clear hy
        go_enter Tryz.func50, Tryz.ntmps50
        go_wp2_with fail
        refine wp_scope_fwd 0 rfl ?_
        go_upto_region 1 with fail
        refine wp_world (w' := w0) hw0.out ?_
        go_wp2
        have hwm : IntKind.i64.wrap (m : Int) = m := by simp [IntKind.wrap, IntKind.bits, IntKind.signed]; omega
        have hml : (m : Int) < (m : Int) + 2 := by omega
        refine' wp_region_growL 12 [fixd _, fixd _, fixd _, fixd _, fixd _, fixd _, fixd _, fixd _, fixd _, fixd _, fixd _, fixd _] (by kernel_rfl) (by kernel_rfl) ?_
        rotate_left 12
        simp only [List.take_succ_cons, List.take_zero, List.drop_succ_cons, List.drop_zero]
        try simp only [Act.put, zA, zB, zC, zD, zE]
        refine' wpGrowV_fix _ rfl rfl (fun W hb _ => by go_simp; first | exact xrefl W | exact ⟨rfl, xrefl W⟩) ?_
        try simp only [Act.put, zA, zB, zC, zD, zE]
        refine' wpGrowV_fix _ rfl rfl (fun W hb _ => by have c := cbel hb hx0; go_simp; first | exact xrefl W | exact ⟨rfl, xrefl W⟩) ?_
        try simp only [Act.put, zA, zB, zC, zD, zE]
        refine' wpGrowV_fix _ rfl rfl (fun W hb _ => by go_simp; first | exact xrefl W | exact ⟨rfl, xrefl W⟩) ?_
        try simp only [Act.put, zA, zB, zC, zD, zE]
        refine' wpGrowV_fix _ rfl rfl (fun W hb _ => by go_simp; first | exact xrefl W | exact ⟨rfl, xrefl W⟩) ?_
        try simp only [Act.put, zA, zB, zC, zD, zE]
        refine' wpGrowV_fix _ rfl rfl (fun W hb _ => by go_simp; first | exact xrefl W | exact ⟨rfl, xrefl W⟩) ?_
        try simp only [Act.put, zA, zB, zC, zD, zE]
        refine' wpGrowV_fix _ rfl rfl (fun W hb _ => by go_simp; first | exact xrefl W | exact ⟨rfl, xrefl W⟩) ?_
        try simp only [Act.put, zA, zB, zC, zD, zE]
        refine' wpGrowV_fix _ rfl rfl (fun W hb _ => by go_simp; first | exact xrefl W | exact ⟨rfl, xrefl W⟩) ?_
        try simp only [Act.put, zA, zB, zC, zD, zE]
        refine' wpGrowV_fix _ rfl rfl (fun W hb _ => by go_simp; first | exact xrefl W | exact ⟨rfl, xrefl W⟩) ?_
        try simp only [Act.put, zA, zB, zC, zD, zE]
        refine' wpGrowV_fix _ rfl rfl (fun W hb _ => by have c := cbel hb hc2; go_simp; first | exact xrefl W | exact ⟨rfl, xrefl W⟩) ?_
        try simp only [Act.put, zA, zB, zC, zD, zE]
        refine' wpGrowV_fix _ rfl rfl (fun W hb hF => ?_) ?_
        · clear hF
          go_simp
          go_at_call 84
          refine (hpush.out W (xtrans hb0.out hb)).mono ?_
          rintro e w' ⟨rfl, hb'⟩
          refine ⟨?_, hb'⟩
          exact rfl
        try simp only [Act.put, zA, zB, zC, zD, zE]
        refine' wpGrowV_fix _ rfl rfl (fun W hb _ => by go_simp; first | exact xrefl W | exact ⟨rfl, xrefl W⟩) ?_
        try simp only [Act.put, zA, zB, zC, zD, zE]
        refine' wpGrowV_fix _ rfl rfl (fun W hb _ => by go_simp; first | exact xrefl W | exact ⟨rfl, xrefl W⟩) ?_
        try simp only [Act.put, zA, zB, zC, zD, zE]
        clear hwm hml
        refine wpGrowV_nil fun W5 hb5 _ => ?_
        have hB5 := qh (hB0.out.below hb5)
        have hb6 := qh (xtrans hb0.out hb5)
        have hLl : L.length = 4 := by rw [← hL.out]; rfl
        have hLo : L.all (·.oneCell') = true := by rw [← hL.out]; rfl
        replace hLl := qh hLl
        replace hLo := qh hLo
        go_wp2_with (refine wpList_store_blkG rfl 32 _ _ rfl (w.heap.size + 1) rfl 32 _ L hB5.out rfl hLl.out (by rw [hLl.out]; kernel_rfl) hLo.out ?_; intro w6 hX6 ho6; replace hX6 := qh hX6; have hb7 := qh (ho6.below hb6.out hb6.out.size (by rintro k rfl; omega)); clear ho6)
        rw [fwd_ret]
        exact bodyPost_ret (results_blkG2 (p := 4) rfl _ _ (w.heap.size + 1) 32 _ _ rfl hX6.out huw rfl (by rw [hLl.out]; kernel_rfl)) rfl ⟨by rw [hfin.out]; rfl, hb7.out⟩
      · have hy2 : ((y : Int) != 86) = true := by simp; omega
        have hy3 : ((y : Int) != 87) = false := by simp; omega
        clear hy hy1
        go_enter Tryz.func50, Tryz.ntmps50
        go_wp2_with fail
        refine wp_scope_fwd 0 rfl ?_
        go_upto_region 1 with fail
        refine wp_world (w' := w0) hw0.out ?_
        go_wp2
        have hwm : IntKind.i64.wrap (m : Int) = m := by simp [IntKind.wrap, IntKind.bits, IntKind.signed]; omega
        have hml : (m : Int) < (m : Int) + 2 := by omega
        refine' wp_region_growL 12 [fixd _, fixd _, fixd _, fixd _, fixd _, fixd _, fixd _, fixd _, fixd _, fixd _, fixd _, fixd _] (by kernel_rfl) (by kernel_rfl) ?_
        rotate_left 12
        simp only [List.take_succ_cons, List.take_zero, List.drop_succ_cons, List.drop_zero]
        try simp only [Act.put, zA, zB, zC, zD, zE]
        refine' wpGrowV_fix _ rfl rfl (fun W hb _ => by go_simp; first | exact xrefl W | exact ⟨rfl, xrefl W⟩) ?_
        try simp only [Act.put, zA, zB, zC, zD, zE]
        refine' wpGrowV_fix _ rfl rfl (fun W hb _ => by have c := cbel hb hx0; go_simp; first | exact xrefl W | exact ⟨rfl, xrefl W⟩) ?_
        try simp only [Act.put, zA, zB, zC, zD, zE]
        refine' wpGrowV_fix _ rfl rfl (fun W hb _ => by go_simp; first | exact xrefl W | exact ⟨rfl, xrefl W⟩) ?_
        try simp only [Act.put, zA, zB, zC, zD, zE]
        refine' wpGrowV_fix _ rfl rfl (fun W hb _ => by go_simp; first | exact xrefl W | exact ⟨rfl, xrefl W⟩) ?_
        try simp only [Act.put, zA, zB, zC, zD, zE]
        refine' wpGrowV_fix _ rfl rfl (fun W hb _ => by go_simp; first | exact xrefl W | exact ⟨rfl, xrefl W⟩) ?_
        try simp only [Act.put, zA, zB, zC, zD, zE]
        refine' wpGrowV_fix _ rfl rfl (fun W hb _ => by go_simp; first | exact xrefl W | exact ⟨rfl, xrefl W⟩) ?_
        try simp only [Act.put, zA, zB, zC, zD, zE]
        refine' wpGrowV_fix _ rfl rfl (fun W hb _ => by go_simp; first | exact xrefl W | exact ⟨rfl, xrefl W⟩) ?_
        try simp only [Act.put, zA, zB, zC, zD, zE]
        refine' wpGrowV_fix _ rfl rfl (fun W hb _ => by go_simp; first | exact xrefl W | exact ⟨rfl, xrefl W⟩) ?_
        try simp only [Act.put, zA, zB, zC, zD, zE]
        refine' wpGrowV_fix _ rfl rfl (fun W hb _ => by have c := cbel hb hc2; go_simp; first | exact xrefl W | exact ⟨rfl, xrefl W⟩) ?_
        try simp only [Act.put, zA, zB, zC, zD, zE]
        refine' wpGrowV_fix _ rfl rfl (fun W hb hF => ?_) ?_
        · clear hF
          go_simp
          go_at_call 84
          refine (hpush.out W (xtrans hb0.out hb)).mono ?_
          rintro e w' ⟨rfl, hb'⟩
          refine ⟨?_, hb'⟩
          exact rfl
        try simp only [Act.put, zA, zB, zC, zD, zE]
        refine' wpGrowV_fix _ rfl rfl (fun W hb _ => by go_simp; first | exact xrefl W | exact ⟨rfl, xrefl W⟩) ?_
        try simp only [Act.put, zA, zB, zC, zD, zE]
        refine' wpGrowV_fix _ rfl rfl (fun W hb _ => by go_simp; first | exact xrefl W | exact ⟨rfl, xrefl W⟩) ?_
        try simp only [Act.put, zA, zB, zC, zD, zE]
        clear hwm hml
        refine wpGrowV_nil fun W5 hb5 _ => ?_
        have hB5 := qh (hB0.out.below hb5)
        have hb6 := qh (xtrans hb0.out hb5)
        have hLl : L.length = 4 := by rw [← hL.out]; rfl
        have hLo : L.all (·.oneCell') = true := by rw [← hL.out]; rfl
        replace hLl := qh hLl
        replace hLo := qh hLo
        go_wp2_with (refine wpList_store_blkG rfl 32 _ _ rfl (w.heap.size + 1) rfl 32 _ L hB5.out rfl hLl.out (by rw [hLl.out]; kernel_rfl) hLo.out ?_; intro w6 hX6 ho6; replace hX6 := qh hX6; have hb7 := qh (ho6.below hb6.out hb6.out.size (by rintro k rfl; omega)); clear ho6)
        rw [fwd_ret]
        exact bodyPost_ret (results_blkG2 (p := 4) rfl _ _ (w.heap.size + 1) 32 _ _ rfl hX6.out huw rfl (by rw [hLl.out]; kernel_rfl)) rfl ⟨by rw [hfin.out]; rfl, hb7.out⟩
    · rw [fixG_none (.inr (by omega)), hgm]
      generalize byN cs (lstN g) = y at *
      have hy1 : ((y : Int) != 86) = true := by simp; omega
      have hy2 : ((y : Int) != 87) = true := by simp; omega
      clear hc2
      clear hg hgc hl h hgl h0 hn1 hlen hgm hr hr2 hyl hj hpush0
      go_enter Tryz.func50, Tryz.ntmps50
      go_wp2_with fail
      refine wp_scope_fwd 0 rfl ?_
      go_upto_region 1 with fail
      refine wp_world (w' := w0) hw0.out ?_
      go_wp2
      go_step3
      simp only [Exit.then, Exit.inBlock, fwd_goto]
      refine ⟨trivial, ?_⟩
      go_wp2_with (first
        | (refine wpList_load_blkG rfl 32 _ rfl (w.heap.size + 1) rfl 32 _ _ hB0.out huw rfl (by kernel_rfl) ?_)
        | (refine wpList_store_blkG rfl 32 _ _ rfl (w.heap.size + 1) rfl 32 _ [.int .u64 0, .int .u64 0, .int .u64 0, .int .u64 0] hB0.out rfl rfl (by kernel_rfl) rfl ?_; intro w6 hX6 ho6; replace hX6 := qh hX6; have hb6 := qh (ho6.below hb0.out hb0.out.size (by rintro k rfl; omega)); clear ho6))
      rw [Exit.noGoto_ret]
      exact bodyPost_ret (results_blkG2 (p := 4) rfl _ _ (w.heap.size + 1) 32 _ _ rfl hX6.out huw rfl (by kernel_rfl)) rfl ⟨rfl, hb6.out⟩
end
section
open Go.RowKit
theorem run_load_midV {P : Program} {o : Oper} {ac : Act} {w : World} (ty : TypeId) (x : Operand) (ho : o.op = .load ty x) (b f : Nat) (hx : ac.eval x = .pointer (some ⟨b, f, none⟩)) (vs : List Value) (d : TypeDesc)
    (hr : w.rangeAt b f vs) (hu : P.underlying ty = some d) (hd : (match d with | .struct _ | .array _ _ => true | _ => false) = true) (hi : (P.info? ty).map (·.size) = some vs.length) : (execOp ac.eval o).run P w = .ok (.value (.agg vs.toArray)) w := by
  have e : (loadVar ty ⟨b, f, none⟩).run P w = .ok (.agg vs.toArray) w := by
    cases d <;> first | (simp at hd; done) | exact run_loadVar_mid w b f ty _ _ hr hu rfl (by simpa using hi)
  unfold execOp
  simp only [ho, hx, Instr.loadAt, Instr.sureAddr, Sem.run_bind, Sem.run_pure, Result.andThen_ok, e]
section
variable {P : Program} {ops : Array Oper} {w : World} {L : Nat → Told} {K : List Value → Act → Prop} {o : Oper} {rest : List Oper} {s : List Value} {a : Act}
theorem wpGrowV_load_mid (hgd : o.guard = none) (ty : TypeId) (x : Operand) (ho : o.op = .load ty x) (b f : Nat) (hx : a.eval x = .pointer (some ⟨b, f, none⟩)) (vs : List Value) (d : TypeDesc)
    (hr : w.rangeAt b f vs) (hu : P.underlying ty = some d) (hd : (match d with | .struct _ | .array _ _ => true | _ => false) = true) (hi : (P.info? ty).map (·.size) = some vs.length)
    (hL : L s.length = fixd (.agg vs.toArray))
    (h : wpGrowV P ops w L K rest (s ++ [.agg vs.toArray]) (a.put o.dst (.agg vs.toArray))) : wpGrowV P ops w L K (o :: rest) s a := by
  refine wpGrowV_fix _ hL (by simp [Region.wanted, hgd]) (fun W hb _ => ?_) h
  rw [run_load_midV ty x ho b f hx vs d (fun j v hj => (hb.cell (p := ⟨b, f + j, none⟩) (cell_lt (hr j v hj))).trans (hr j v hj)) hu hd hi]
  exact ⟨rfl, xrefl W⟩
end
end
section
open Go.RowKit Go.Shelf
theorem eql_op (x x' y y' : Int) (W : World) : (binOp .eql 81 (.agg #[.int .i64 x, .int .u8 y]) (.agg #[.int .i64 x', .int .u8 y'])).run Tryz.prog W = .ok (.bool (x == x' && y == y')) W := by
  go_simp
  by_cases h1 : x = x' <;> by_cases h2 : y = y' <;> simp [h1, h2]
theorem BlkG.range {w : World} {b : Nat} {T : TypeId} {vs : List Value} (h : BlkG w b T vs) : w.rangeAt b 0 vs := fun j v hj => by
  obtain ⟨hlt, rfl⟩ := List.getElem?_eq_some_iff.1 hj
  rw [Nat.zero_add]; exact h.cell j hlt
set_option maxRecDepth 100000 in
set_option maxHeartbeats 4000000 in
theorem index_any (cs l : List Nat) (k : Nat) (hk : k < l.length) (p : Option Addr) (q : Nat) (w : World) (h : OpsAt w p q cs l) (hs : SL l) (hl : l.length ≤ 200) :
    Calls Tryz.prog 112 #[.slice p l.length q, .agg #[.int .i64 l[k], .int .u8 (byN cs l[k])]] w fun e w' => e = .returned (.int .i64 k) ∧ Below w.heap.size w w' := by
  have hX0 : Hid (BlkG (w.alloc (.cells #[.int .i64 l[k], .int .u8 (byN cs l[k])] 81)) w.heap.size 81 [.int .i64 l[k], .int .u8 (byN cs l[k])]) := qh (BlkG.new w _ [.int .i64 l[k], .int .u8 (byN cs l[k])])
  have hb0 : Hid (Below w.heap.size w (w.alloc (.cells #[.int .i64 l[k], .int .u8 (byN cs l[k])] 81))) := qh (xalloc (xrefl w) _)
  have hne : Hid (∀ i (hi : i < k), ((l[k] : Int) == ((l[i]'(by omega) : Nat) : Int)) = false) := qh fun i hi => by
    have := hs.get hk hi
    simp; omega
  have heq : Hid (∀ i (hi : i < l.length), i = k → l[i] = l[k]) := qh fun i hi e => by subst e; rfl
  have hql := qh eql_op
  have hkI : (k : Int) < l.length := by omega
  replace h := qh h
  generalize hy : byN cs l[k] = y at *
  generalize hx : l[k] = x at *
  replace hy := qh hy
  replace hx := qh hx
  go_enter Tryz.func112, Tryz.ntmps112
  go_wp2
  go_loopw [8] (fun iv wx => ∃ i : Nat, i ≤ k ∧ iv = .int .i64 i ∧ Hid (BlkG wx w.heap.size 81 [.int .i64 x, .int .u8 y]) ∧ Hid (Below w.heap.size w wx)) (fun iv _ => k - (intOf iv).toNat)
  case atStart => exact ⟨0, by omega, rfl, hX0, hb0⟩
  case round =>
    clear hX0 hb0
    obtain ⟨i, hi, rfl, hX0, hb⟩ := hrel
    have hil : i < l.length := by omega
    have hiI : (i : Int) < l.length := by omega
    obtain ⟨b, o, rfl, hr0⟩ := h.out.elt i hil
    have hr : wr.rangeAt b (o + i * 2) [.int .i64 (l[i] : Int), .int .u8 (byN cs l[i])] := fun j v hj => (hb.out.cell (p := ⟨b, o + i * 2 + j, none⟩) (cell_lt (hr0 j v hj))).trans (hr0 j v hj)
    have hX := qh hX0.out.range
    clear hr0
    by_cases hik : i = k
    · have e1 := heq.out i hil hik
      have hqe : (l[i] : Int) = (x : Int) ∧ (byN cs l[i] : Int) = (y : Int) := by rw [e1, hy.out]; exact ⟨rfl, rfl⟩
      rw [hqe.1, hqe.2] at hr
      obtain ⟨z, hz⟩ : ∃ z : Nat, z = x := ⟨_, rfl⟩
      obtain ⟨u, hu⟩ : ∃ u : Nat, u = y := ⟨_, rfl⟩
      rw [← hz, ← hu] at hr
      have hq := fun W => hql.out x z y u W
      have hbt : ((x : Int) == (z : Int) && (y : Int) == (u : Int)) = true := by subst hz hu; simp
      rw [hbt] at hq
      replace hik := qh hik
      replace hz := qh hz
      replace hu := qh hu
      clear hbt e1 hqe
      go_wp2
      refine' wp_region_growL 6 [fixd (.agg #[.int .i64 (x : Int), .int .u8 (y : Int)]), fixd _, fixd _, fixd _, fixd (.agg #[.int .i64 (z : Int), .int .u8 (u : Int)]), fixd _] (by kernel_rfl) (by kernel_rfl) ?_
      rotate_left 4
      simp only [List.take_succ_cons, List.take_zero, List.drop_succ_cons, List.drop_zero]
      try simp only [Act.put, zA, zB, zC, zD, zE]
      refine wpGrowV_load_mid rfl 81 _ rfl w.heap.size 0 rfl [.int .i64 (x : Int), .int .u8 (y : Int)] _ hX.out Tryz.underlying81 rfl (by kernel_rfl) rfl ?_
      try simp only [Act.put, zA, zB, zC, zD, zE]
      refine' wpGrowV_fix _ rfl rfl (fun W hb _ => by go_simp; first | exact xrefl W | exact ⟨rfl, xrefl W⟩) ?_
      try simp only [Act.put, zA, zB, zC, zD, zE]
      refine' wpGrowV_fix _ rfl rfl (fun W hb _ => by go_simp; first | exact xrefl W | exact ⟨rfl, xrefl W⟩) ?_
      try simp only [Act.put, zA, zB, zC, zD, zE]
      refine' wpGrowV_fix _ rfl rfl (fun W hb _ => by go_simp; first | exact xrefl W | exact ⟨rfl, xrefl W⟩) ?_
      try simp only [Act.put, zA, zB, zC, zD, zE]
      refine wpGrowV_load_mid rfl 81 _ rfl b (o + i * 2) rfl [.int .i64 (z : Int), .int .u8 (u : Int)] _ hr Tryz.underlying81 rfl (by kernel_rfl) rfl ?_
      try simp only [Act.put, zA, zB, zC, zD, zE]
      refine' wpGrowV_fix _ rfl rfl (fun W hb _ => by go_simp; first | exact xrefl W | exact ⟨rfl, xrefl W⟩) ?_
      try simp only [Act.put, zA, zB, zC, zD, zE]
      refine wpGrowV_nil fun W5 hb5 _ => ?_
      replace hb5 := qh (xtrans hb.out hb5)
      go_wp2
      go_ret
      exact ⟨by rw [← hik.out]; rfl, hb5.out⟩
    · have e1 := hne.out i (by omega)
      generalize byN cs l[i] = u at *
      generalize l[i] = z at *
      have hq := fun W => hql.out x z y u W
      have hbt : ((x : Int) == (z : Int) && (y : Int) == (u : Int)) = false := by rw [e1]; rfl
      rw [hbt] at hq
      have hik2 : i + 1 ≤ k := by omega
      clear hbt e1 hik
      go_wp2
      refine' wp_region_growL 6 [fixd (.agg #[.int .i64 (x : Int), .int .u8 (y : Int)]), fixd _, fixd _, fixd _, fixd (.agg #[.int .i64 (z : Int), .int .u8 (u : Int)]), fixd _] (by kernel_rfl) (by kernel_rfl) ?_
      rotate_left 4
      simp only [List.take_succ_cons, List.take_zero, List.drop_succ_cons, List.drop_zero]
      try simp only [Act.put, zA, zB, zC, zD, zE]
      refine wpGrowV_load_mid rfl 81 _ rfl w.heap.size 0 rfl [.int .i64 (x : Int), .int .u8 (y : Int)] _ hX.out Tryz.underlying81 rfl (by kernel_rfl) rfl ?_
      try simp only [Act.put, zA, zB, zC, zD, zE]
      refine' wpGrowV_fix _ rfl rfl (fun W hb _ => by go_simp; first | exact xrefl W | exact ⟨rfl, xrefl W⟩) ?_
      try simp only [Act.put, zA, zB, zC, zD, zE]
      refine' wpGrowV_fix _ rfl rfl (fun W hb _ => by go_simp; first | exact xrefl W | exact ⟨rfl, xrefl W⟩) ?_
      try simp only [Act.put, zA, zB, zC, zD, zE]
      refine' wpGrowV_fix _ rfl rfl (fun W hb _ => by go_simp; first | exact xrefl W | exact ⟨rfl, xrefl W⟩) ?_
      try simp only [Act.put, zA, zB, zC, zD, zE]
      refine wpGrowV_load_mid rfl 81 _ rfl b (o + i * 2) rfl [.int .i64 (z : Int), .int .u8 (u : Int)] _ hr Tryz.underlying81 rfl (by kernel_rfl) rfl ?_
      try simp only [Act.put, zA, zB, zC, zD, zE]
      refine' wpGrowV_fix _ rfl rfl (fun W hb _ => by go_simp; first | exact xrefl W | exact ⟨rfl, xrefl W⟩) ?_
      try simp only [Act.put, zA, zB, zC, zD, zE]
      refine wpGrowV_nil fun W5 hb5 _ => ?_
      have hX5 := qh (hX0.out.below hb5)
      replace hb5 := qh (xtrans hb.out hb5)
      go_wp2
      exact ⟨⟨i + 1, hik2, by go_num, hX5, hb5⟩, by simp [intOf]; omega⟩
end
end Go.Proofs.YtijkdabmegbcjaaGreatDoor
