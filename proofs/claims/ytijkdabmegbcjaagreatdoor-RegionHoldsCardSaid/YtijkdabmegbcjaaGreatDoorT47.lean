/- Texts of this claim, merged; no condition. -/
import Derived.Test.YtijkdabmegbcjaaGreatDoorT45
import Derived.Test.YtijkdabmegbcjaaGreatDoorT46
import Derived.Test.YtijkdabmegbcjaaGreatDoorT14
import Derived.Test.YtijkdabmegbcjaaGreatDoorT08
import Derived.Test.YtijkdabmegbcjaaGreatDoorTA
set_option linter.all false
namespace Go.Proofs.YtijkdabmegbcjaaGreatDoor
open Go.RowKit Go.Shelf
attribute [local go_sem 20000] run_max_big run_min_small
def pickN (ps : List Nat) (i m : Nat) : Nat := if i < ps.length then byN ps i % m else 0
theorem pickN_lt (ps : List Nat) (i m : Nat) (h : 0 < m) : pickN ps i m < m := by
  unfold pickN
  split
  · exact Nat.mod_lt _ h
  · exact h
theorem sm_opT {cs : List Nat} (h : ∀ b ∈ cs, b < 256) (i : Nat) : SmS 32000 (opT (infoN (byN cs i))) := by
  obtain ⟨h1, h2, h3⟩ := info_small _ (byN_lt h i)
  refine ⟨?_, ?_, ?_, ?_, ?_⟩ <;> simp only [opT, bigF] <;> (try split) <;> omega
theorem row_snoc (cs : List Nat) (B : BlkN) (l : List Nat) (x : Nat) (acc : StN) : rowF cs B (l ++ [x]) acc = if B.first ≤ x ∧ x ≤ B.last then thenS (rowF cs B l acc) (opT (infoN (byN cs x))) else rowF cs B l acc := by
  unfold rowF; rw [List.foldl_append]; rfl
theorem row_keep {cs : List Nat} {B : BlkN} (hok : ∀ b ∈ cs, b < 256) : ∀ (l : List Nat) (acc : StN) (A : Int), OneS acc → SmS A acc → OneS (rowF cs B l acc) ∧ SmS (A + 32000 * l.length) (rowF cs B l acc)
  | [], acc, A, h1, h2 => ⟨h1, sm_up h2 (by simp)⟩
  | x :: l, acc, A, h1, h2 => by
    have e : rowF cs B (x :: l) acc = rowF cs B l (if B.first ≤ x ∧ x ≤ B.last then thenS acc (opT (infoN (byN cs x))) else acc) := rfl
    have hs := sm_opT hok x
    have hl : (A + 32000) + 32000 * (l.length : Int) = A + 32000 * ((x :: l).length : Int) := by simp; omega
    rw [e, ← hl]
    split
    · have b := bigF_ge 0 (((infoN (byN cs x)).outs : Int) - (infoN (byN cs x)).ins)
      exact row_keep hok l _ _ (one_then h1 rfl (by simp only [opT]; omega) (by simp only [opT]; omega)) (sm_then h2 hs)
    · exact row_keep hok l _ _ h1 (sm_up h2 (by omega))
theorem then_op {s : StN} (h : OneS s) (x : InfoN) : thenS s (opT x) = ⟨s.g0 + x.gas, s.g1 + x.gas, smallF s.lo (s.ht - x.ins), bigF s.hi (s.ht - x.ins + x.outs), s.ht - x.ins + x.outs⟩ := by
  obtain ⟨h1, h2, h3⟩ := h
  have b := bigF_ge 0 ((x.outs : Int) - x.ins)
  have b1 := bigF_ge s.hi (s.ht + bigF 0 ((x.outs : Int) - x.ins))
  have b2 := bigF_ge s.hi (s.ht - x.ins + x.outs)
  simp only [thenS, opT, StN.mk.injEq]
  refine ⟨trivial, trivial, ?_, ?_, ?_⟩
  · rw [show s.ht + -(x.ins : Int) = s.ht - x.ins by omega]
  · omega
  · omega
theorem info_h3 : (Tryz.prog.info? 64).map (fun i => (i.zero, i.size, i.bytes)) = some (some (.agg #[.int .i64 0, .int .i64 0, .int .i64 0]), 3, 24) := by kernel_rfl
theorem results_tct {P : Program} {fn : Func} {p r q : Tmp} {ty : TypeId} (h : fn.results = #[.tmp p, .cell r ty, .tmp q]) (tmps : Array Value) (w : World) (b : Nat) (T : TypeId) (vs : List Value) (d : TypeDesc)
    (hp : tmps.getD r undef = .pointer (some ⟨b, 0, none⟩)) (hB : BlkG w b T vs) (hu : P.underlying ty = some d) (hd : (match d with | .struct _ | .array _ _ => true | _ => false) = true) (hi : (P.info? ty).map (·.size) = some vs.length) :
    (results fn tmps).run P w = .ok (.tuple #[tmps.getD p undef, .agg vs.toArray, tmps.getD q undef]) w := by
  have hp' : tmps[r]?.getD undef = .pointer (some ⟨b, 0, none⟩) := by simpa using hp
  simp [results, h, hp', asAddr, run_loadVar_row w b T ty _ (0, 0) d hB hu hd (by simpa using hi), Sem.run_bind]
theorem wpGrowV_load_row {P : Program} {ops : Array Oper} {w : World} {L : Nat → Told} {K : List Value → Act → Prop} {o : Oper} {rest : List Oper} {s : List Value} {a : Act} (hgd : o.guard = none) (ty : TypeId) (x : Operand) (ho : o.op = .load ty x)
    (b : Nat) (hx : a.eval x = .pointer (some ⟨b, 0, none⟩)) (T : TypeId) (vs : List Value) (d : TypeDesc) (hB : BlkG w b T vs) (hu : P.underlying ty = some d) (hd : d.isRow = true) (hi : (P.info? ty).map (·.size) = some vs.length)
    (hL : L s.length = fixd (.agg vs.toArray)) (h : wpGrowV P ops w L K rest (s ++ [.agg vs.toArray]) (a.put o.dst (.agg vs.toArray))) : wpGrowV P ops w L K (o :: rest) s a := by
  refine wpGrowV_fix _ hL (by simp [Region.wanted, hgd]) (fun W hb _ => ?_) h
  have hW := hB.below hb
  have hr : (execOp a.eval o).run P W = .ok (.value (.agg vs.toArray)) W := by
    unfold execOp
    have hc : W.rangeAt b 0 vs := fun j v hj => by
      rw [Nat.zero_add]
      obtain ⟨hlt, rfl⟩ := List.getElem?_eq_some_iff.1 hj
      exact hW.cell j hlt
    simp only [ho, hx, Instr.loadAt, Instr.sureAddr, Sem.run_bind, Sem.run_pure, Result.andThen_ok, run_loadVar_mid W b 0 ty _ _ hc hu hd (by simpa using hi)]
  rw [hr]
  exact ⟨rfl, xrefl W⟩
theorem info_oi : (Tryz.prog.info? 113).map (fun i => (i.zero, i.size, i.bytes)) = some (some (.agg #[.string ⟨#[]⟩, .int .i64 0, .int .i64 0, .int .u64 0, .bool false, .int .i64 0]), 6, 56) := by kernel_rfl
def hC3 (s : StN) : List Value := [.int .i64 s.lo, .int .i64 s.hi, .int .i64 s.ht]
section
variable {cs ps : List Nat} {a a2 : Option Addr} {c c2 : Nat}
set_option maxRecDepth 100000 in
set_option maxHeartbeats 8000000 in
theorem goes_any (k0 en : Nat) (t : StN) (W : World) (h : CodeAt W a c cs) (hl : cs.length ≤ 100) (hp : CodeAt W a2 c2 ps) (hg : goesF cs (blksN cs) en (pickN ps) 100 0 k0 zeroS = some t) :
    Calls Tryz.prog 39 #[.slice a cs.length c, .int .i64 k0, .int .i64 en, .slice a2 ps.length c2] W fun e W' => e = .returned (.tuple #[.int .u64 t.g0, .agg #[.int .i64 t.lo, .int .i64 t.hi, .int .i64 t.ht], .bool true]) ∧ Below W.heap.size W W' := by
  obtain ⟨i0, hi0, hz0, hz1, hz2⟩ := info_parts info_h3
  have hu3 := Tryz.underlying64
  have hok := h.ok
  have g := graph_code cs
  have hpl := hp.len
  have hop := hp.ok
  have hol := opsL_len cs
  have hbl := blksN_len cs
  have hb0 : Below W.heap.size W (W.alloc (.cells #[.int .i64 0, .int .i64 0, .int .i64 0] 64)) := xalloc (xrefl W) _
  have hR0 : Hid (BlkG (W.alloc (.cells #[.int .i64 0, .int .i64 0, .int .i64 0] 64)) W.heap.size 64 (hC3 zeroS)) := qh (BlkG.new W _ _)
  have hbk := qh (refBlocks_any cs a c _ (h.below hb0))
  have hos := qh fun W' hb => refOps_any cs a c W' (h.below hb)
  have hcode := qh h
  have hpk := qh hp
  replace hb0 := qh hb0
  clear h hp
  generalize hbs : blksN cs = bs at *
  generalize hops : opsL cs = os at *
  replace hg := qh hg
  have hbsz : bs.length ≤ 1048700 := by omega
  have hosl : os.length ≤ 200 := by omega
  go_enter Tryz.func39, Tryz.ntmps39
  go_wp2_with (first
    | (go_at_call 15; refine hbk.out.mono ?_; rintro e w1 ⟨⟨pb, qb, rfl, hP, -⟩, hb1⟩; have hR1 := qh (hR0.out.below hb1); replace hP := qh hP; replace hb1 := qh (xtrans hb0.out hb1))
    | (go_at_call 48; refine (hos.out _ hb1.out).mono ?_; rintro e w2 ⟨⟨v2, rfl, hv2⟩, hb2⟩; obtain ⟨ao, co, rfl, hIO, -⟩ := hv2.at; have hR2 := qh (hR1.out.below hb2); have hP2 := qh (hP.out.below hb2); replace hIO := qh hIO; replace hb2 := qh (xtrans hb1.out hb2); clear hv2 hP hR1 hb1))
  have hb20 : Below w2.heap.size w2 (w2.alloc (.cells #[.int .i64 0, .int .i64 0, .int .i64 0] 64)) := xalloc (xrefl _) _
  have hH0 : BlkG (w2.alloc (.cells #[.int .i64 0, .int .i64 0, .int .i64 0] 64)) w2.heap.size 64 (hC3 zeroS) := BlkG.new w2 _ _
  have hRl := hR2.out.lt
  obtain ⟨hb, hhb⟩ : ∃ hb, w2.heap.size = hb := ⟨_, rfl⟩
  rw [hhb] at hH0 hRl ⊢
  replace hhb := qh hhb
  obtain ⟨w3, hw3⟩ : ∃ w3, w2.alloc (.cells #[.int .i64 0, .int .i64 0, .int .i64 0] 64) = w3 := ⟨_, rfl⟩
  rw [hw3] at hb20 hH0 ⊢
  clear hw3
  replace hb20 := qh hb20
  replace hH0 := qh hH0
  go_loopw [1, 13, 15] (fun kv gv iv wx => ∃ (i k : Nat) (acc : StN), kv = .int .i64 k ∧ gv = .int .u64 acc.g0 ∧ iv = .int .i64 i ∧ i ≤ 100 ∧ Hid (goesF cs bs en (pickN ps) (100 - i) i k acc = some t) ∧ Hid (OneS acc ∧ SmS (6400000 * i) acc) ∧ Hid (BlkG wx hb 64 (hC3 acc)) ∧ Hid (Below w2.heap.size w2 wx)) (fun _ _ iv _ => 100 - (intOf iv).toNat)
  case atStart => exact ⟨0, k0, zeroS, rfl, rfl, rfl, by omega, hg, qh ⟨one_zero, sm_up sm_zero (by omega)⟩, hH0, hb20⟩
  case round =>
    clear hg hH0 hb20
    obtain ⟨i, k, acc, rfl, rfl, rfl, hi, hgi, hoS, hH, hbx⟩ := hrel
    have hi2 : i < 100 := by
      rcases Nat.lt_or_ge i 100 with h | h
      · exact h
      · have e := hgi.out
        rw [show 100 - i = 0 by omega] at e
        cases e
    have e := hgi.out
    rw [show 100 - i = (99 - i) + 1 by omega] at e
    unfold goesF at e
    have hiI : (i : Int) < 100 := by omega
    have hwsz := hbx.out.size
    rw [hhb.out] at hwsz
    by_cases hke : k = en
    · rw [if_pos hke] at e
      obtain rfl := Option.some.inj e
      subst hke
      clear e hgi
      have hR3 := qh (hR2.out.below hbx.out)
      go_wp2_with (fail)
      refine' wp_region_growL 3 [fixd _, fixd _, fixd _] (by kernel_rfl) (by kernel_rfl) ?_
      rotate_left 3
      simp only [List.take_succ_cons, List.take_zero, List.drop_succ_cons, List.drop_zero]
      try simp only [Act.put, zA, zB, zC, zD, zE]
      refine' wpGrowV_fix _ rfl rfl (fun W hb _ => by go_simp; first | exact xrefl W | exact ⟨rfl, xrefl W⟩) ?_
      try simp only [Act.put, zA, zB, zC, zD, zE]
      refine' wpGrowV_load_row rfl 64 _ rfl hb rfl 64 [.int .i64 acc.lo, .int .i64 acc.hi, .int .i64 acc.ht] _ hH.out hu3 rfl (by kernel_rfl) rfl ?_
      try simp only [Act.put, zA, zB, zC, zD, zE]
      refine' wpGrowV_fix _ rfl rfl (fun W hb _ => by go_simp; first | exact xrefl W | exact ⟨rfl, xrefl W⟩) ?_
      try simp only [Act.put, zA, zB, zC, zD, zE]
      intro w5 hb5 _
      have hR5 := qh (hR3.out.below hb5)
      have hb05 := qh (xtrans (xtrans hb2.out hbx.out) hb5)
      clear hb5
      go_wp2_with (refine wpList_store_blkG rfl 64 _ _ rfl W.heap.size rfl 64 (hC3 zeroS) (hC3 acc) hR5.out rfl rfl (by kernel_rfl) rfl ?_; intro w6 hX6 ho6; have hb6 := qh (ho6.below hb05.out hb05.out.size (by rintro j rfl; omega)); replace hX6 := qh hX6; clear ho6)
      exact bodyPost_ret (results_tct (p := 8) (r := 9) (q := 10) rfl _ _ W.heap.size 64 (hC3 acc) _ rfl hX6.out hu3 rfl (by kernel_rfl)) rfl ⟨rfl, hb6.out⟩
    · rw [if_neg hke] at e
      have hkeI : ¬ (k : Int) = (en : Int) := by omega
      by_cases hno : (findB bs k).isNone = true ∨ (blkOf bs k).next = []
      · rw [if_pos hno] at e; cases e
      · rw [if_neg hno] at e
        rw [not_or] at hno
        obtain ⟨hn1, hn2⟩ := hno
        have hnl := List.length_pos_iff.2 hn2
        have hfd := qh fun W' (hW : Below w2.heap.size w2 W') => refFindS_any bs (k : Int) pb qb w2 W' hP2.out hW (by omega)
        rw [findZ_nat] at hfd
        have hfs : (findB bs k).isSome = true := by cases hx : findB bs k <;> simp_all
        have hfg : (findB bs k).getD blk0 = blkOf bs k := rfl
        rw [hfs, hfg] at hfd
        have hbnl : (blkOf bs k).next.length ≤ 200 := by
          unfold blkOf
          cases hfb : findB bs k with
          | none => simp [blk0]
          | some B => have := g.len B (List.mem_of_find?_eq_some hfb); simp; omega
        obtain ⟨s0, hs0⟩ : ∃ s0, rowF cs (blkOf bs k) os acc = s0 := ⟨_, rfl⟩
        rw [hops, hs0] at e
        have hrow := qh fun j (hj : j < os.length) => row_snoc cs (blkOf bs k) (os.take j) os[j] acc
        have hkeep := qh fun j => row_keep hok (B := blkOf bs k) (os.take j) acc _ hoS.out.1 hoS.out.2
        generalize blkOf bs k = X at *
        unfold blkV at hfd
        have hnI : ¬ (X.next.length : Int) = 0 := by omega
        have hnB : ((X.next.length : Int) == 0) = false := by simpa using hnI
        replace e := qh e
        replace hs0 := qh hs0
        clear hfs hfg hn1 hgi
        replace hn2 := qh hn2
        have hu := Tryz.underlying51
        have hst0 : BlkG wr hb 64 (hC3 (rowF cs X (os.take 0) acc)) := hH.out
        have hg0 : acc.g0 = (rowF cs X (os.take 0) acc).g0 := rfl
        go_wp2_with (first
          | (go_at_call 34; refine (hfd.out _ hbx.out).mono ?_; rintro e w4 ⟨⟨p, q, rfl, hI⟩, hb4⟩; have hH4 := qh (hH.out.below hb4); have hbx4 := qh (xtrans hbx.out hb4); replace hI := qh hI; clear hb4)
          | (refine wpList_store_blkG rfl 51 _ _ rfl w4.heap.size rfl 51 [.int .i64 0, .int .i64 0, .slice none 0 0, .bool false] [.int .i64 X.first, .int .i64 X.last, .slice p X.next.length q, .bool X.exit] (BlkG.new w4 _ _) rfl rfl (by kernel_rfl) rfl ?_; intro w5 hX5 ho5; have hb5 := ho5.below (xalloc (xrefl w4) _) (xalloc (xrefl w4) _).size (by rintro k rfl; exact Nat.le_refl _); have hH5 := qh (hH4.out.below hb5); have cN := hX5.cell 2 (by simp); simp only [List.getElem_cons_succ, List.getElem_cons_zero] at cN; have hsz4 := hbx4.out.size; rw [hhb.out] at hsz4; have hsz5 := hb5.size; have hhb4 := hH4.out.lt; have hbx5 := qh (xtrans hbx4.out hb5); replace hX5 := qh hX5; clear ho5))
        have hX50 := hX5
        go_loopw [13, 18] (fun gv jv wx => ∃ j : Nat, gv = .int .u64 (rowF cs X (os.take j) acc).g0 ∧ jv = .int .i64 j ∧ j ≤ os.length ∧ Hid (BlkG wx hb 64 (hC3 (rowF cs X (os.take j) acc))) ∧ Hid (Below w2.heap.size w2 wx) ∧ Hid (BlkG wx w4.heap.size 51 [.int .i64 X.first, .int .i64 X.last, .slice p X.next.length q, .bool X.exit])) (fun _ jv _ => os.length - (intOf jv).toNat)
        case atStart => exact ⟨0, rfl, rfl, by omega, hH5, hbx5, hX5⟩
        case round =>
          clear hH4 hH5 hX5 hbx4 hbx5 cN hst0 hH hbx hX50
          obtain ⟨j, rfl, rfl, hj, hHr, hbr, hXr⟩ := hrel
          have hrsz := hbr.out.size
          rw [hhb.out] at hrsz
          by_cases hlt : j < os.length
          · have hltI : (j : Int) < os.length := by omega
            obtain ⟨k1, k2⟩ := hkeep.out j
            have hsn := hrow.out j hlt
            have hjl : (os.take j).length = j := by rw [List.length_take]; omega
            rw [hjl] at k2
            have htk : os.take (j + 1) = os.take j ++ [os[j]] := by rw [List.take_add_one, List.getElem?_eq_getElem hlt]; rfl
            rw [← htk] at hsn
            obtain ⟨ab, abo, rfl, hco⟩ := hIO.out.get hlt
            have hxl : os[j] < cs.length := by
              have hm : os[j] ∈ opsL cs := by rw [hops]; exact List.getElem_mem hlt
              exact opsL_lt hm
            have cO := cbel hbr.out hco
            have cF := hXr.out.cell 0 (by simp)
            have cL := hXr.out.cell 1 (by simp)
            simp only [List.getElem_cons_succ, List.getElem_cons_zero] at cF cL
            have hwj : IntKind.i64.wrap ((j : Int) + 1) = (j : Int) + 1 := by simp [IntKind.wrap, IntKind.bits, IntKind.signed]; omega
            generalize os[j] = x at *
            obtain ⟨s2, hs2⟩ : ∃ s2, rowF cs X (os.take (j + 1)) acc = s2 := ⟨_, rfl⟩
            rw [hs2] at hsn
            obtain ⟨s1, hs1⟩ : ∃ s1, rowF cs X (os.take j) acc = s1 := ⟨_, rfl⟩
            rw [hs1] at hsn k1 k2 hHr ⊢
            replace hs2 := qh hs2
            replace hs1 := qh hs1
            clear htk hco
            replace k1 := qh k1
            by_cases h1 : x < X.first
            · have h1I : (x : Int) < (X.first : Int) := by omega
              rw [if_neg (fun h => by omega)] at hsn
              replace hsn := qh hsn
              replace k2 := qh k2
              go_wp2_with (fail)
              refine' wp_region_growL 16 [fixd _, fixd _, fixd _, fixd _, fixd _, fixd _, fixd _, fixd _, fixd undef, fixd undef, fixd undef, fixd undef, fixd undef, fixd undef, fixd undef, fixd _] (by kernel_rfl) (by kernel_rfl) ?_
              rotate_left 9
              simp only [List.take_succ_cons, List.take_zero, List.drop_succ_cons, List.drop_zero]
              try simp only [Act.put, zA, zB, zC, zD, zE]
              refine' wpGrowV_fix _ rfl rfl (fun W hb _ => by go_simp; first | exact xrefl W | exact ⟨rfl, xrefl W⟩) ?_
              try simp only [Act.put, zA, zB, zC, zD, zE]
              refine' wpGrowV_fix _ rfl rfl (fun W hb _ => by go_simp; first | exact xrefl W | exact ⟨rfl, xrefl W⟩) ?_
              try simp only [Act.put, zA, zB, zC, zD, zE]
              refine' wpGrowV_fix _ rfl rfl (fun W hb _ => by go_simp; first | exact xrefl W | exact ⟨rfl, xrefl W⟩) ?_
              try simp only [Act.put, zA, zB, zC, zD, zE]
              refine' wpGrowV_fix _ rfl rfl (fun W hb _ => by have c := cbel hb cO; go_simp; first | exact xrefl W | exact ⟨rfl, xrefl W⟩) ?_
              try simp only [Act.put, zA, zB, zC, zD, zE]
              refine' wpGrowV_fix _ rfl rfl (fun W hb _ => by go_simp; first | exact xrefl W | exact ⟨rfl, xrefl W⟩) ?_
              try simp only [Act.put, zA, zB, zC, zD, zE]
              refine' wpGrowV_fix _ rfl rfl (fun W hb _ => by have c := cbel hb cF; go_simp; first | exact xrefl W | exact ⟨rfl, xrefl W⟩) ?_
              try simp only [Act.put, zA, zB, zC, zD, zE]
              refine' wpGrowV_fix (.bool true) rfl rfl (fun W hb _ => by go_simp; first | exact xrefl W | exact ⟨rfl, xrefl W⟩ | (refine ⟨?_, xrefl W⟩; simp; omega)) ?_
              try simp only [Act.put, zA, zB, zC, zD, zE]
              refine' wpGrowV_fix _ rfl rfl (fun W hb _ => by go_simp; first | exact xrefl W | exact ⟨rfl, xrefl W⟩) ?_
              try simp only [Act.put, zA, zB, zC, zD, zE]
              refine wpGrowV_not rfl rfl ?_
              try simp only [Act.put, zA, zB, zC, zD, zE]
              refine wpGrowV_not rfl rfl ?_
              try simp only [Act.put, zA, zB, zC, zD, zE]
              refine wpGrowV_not rfl rfl ?_
              try simp only [Act.put, zA, zB, zC, zD, zE]
              refine wpGrowV_not rfl rfl ?_
              try simp only [Act.put, zA, zB, zC, zD, zE]
              refine wpGrowV_not rfl rfl ?_
              try simp only [Act.put, zA, zB, zC, zD, zE]
              refine wpGrowV_not rfl rfl ?_
              try simp only [Act.put, zA, zB, zC, zD, zE]
              refine wpGrowV_not rfl rfl ?_
              try simp only [Act.put, zA, zB, zC, zD, zE]
              refine' wpGrowV_fix (.bool true) rfl rfl (fun W hb _ => by go_simp; first | exact xrefl W | exact ⟨rfl, xrefl W⟩ | (refine ⟨?_, xrefl W⟩; simp; omega)) ?_
              try simp only [Act.put, zA, zB, zC, zD, zE]
              intro w6 hb6 _
              have hH6 := qh (hHr.out.below hb6)
              have hX6 := qh (hXr.out.below hb6)
              have hbr6 := qh (xtrans hbr.out hb6)
              clear hb6
              go_wp2_with (fail)
              exact ⟨⟨j + 1, by rw [hs2.out, hsn.out], by go_num, by omega, by rw [hs2.out, hsn.out]; exact hH6, hbr6, hX6⟩, by simp [intOf]; omega⟩
            · have h1I : ¬ (x : Int) < (X.first : Int) := by omega
              by_cases h2 : x > X.last
              · have h2I : (x : Int) > (X.last : Int) := by omega
                rw [if_neg (fun h => by omega)] at hsn
                replace hsn := qh hsn
                replace k2 := qh k2
                go_wp2_with (fail)
                refine' wp_region_growL 16 [fixd _, fixd _, fixd _, fixd _, fixd _, fixd _, fixd _, fixd _, fixd _, fixd _, fixd _, fixd _, fixd _, fixd _, fixd _, fixd _] (by kernel_rfl) (by kernel_rfl) ?_
                rotate_left 16
                simp only [List.take_succ_cons, List.take_zero, List.drop_succ_cons, List.drop_zero]
                try simp only [Act.put, zA, zB, zC, zD, zE]
                refine' wpGrowV_fix _ rfl rfl (fun W hb _ => by go_simp; first | exact xrefl W | exact ⟨rfl, xrefl W⟩) ?_
                try simp only [Act.put, zA, zB, zC, zD, zE]
                refine' wpGrowV_fix _ rfl rfl (fun W hb _ => by go_simp; first | exact xrefl W | exact ⟨rfl, xrefl W⟩) ?_
                try simp only [Act.put, zA, zB, zC, zD, zE]
                refine' wpGrowV_fix _ rfl rfl (fun W hb _ => by go_simp; first | exact xrefl W | exact ⟨rfl, xrefl W⟩) ?_
                try simp only [Act.put, zA, zB, zC, zD, zE]
                refine' wpGrowV_fix _ rfl rfl (fun W hb _ => by have c := cbel hb cO; go_simp; first | exact xrefl W | exact ⟨rfl, xrefl W⟩) ?_
                try simp only [Act.put, zA, zB, zC, zD, zE]
                refine' wpGrowV_fix _ rfl rfl (fun W hb _ => by go_simp; first | exact xrefl W | exact ⟨rfl, xrefl W⟩) ?_
                try simp only [Act.put, zA, zB, zC, zD, zE]
                refine' wpGrowV_fix _ rfl rfl (fun W hb _ => by have c := cbel hb cF; go_simp; first | exact xrefl W | exact ⟨rfl, xrefl W⟩) ?_
                try simp only [Act.put, zA, zB, zC, zD, zE]
                refine' wpGrowV_fix (.bool false) rfl rfl (fun W hb _ => by go_simp; first | exact xrefl W | exact ⟨rfl, xrefl W⟩ | (refine ⟨?_, xrefl W⟩; simp; omega)) ?_
                try simp only [Act.put, zA, zB, zC, zD, zE]
                refine' wpGrowV_fix _ rfl rfl (fun W hb _ => by go_simp; first | exact xrefl W | exact ⟨rfl, xrefl W⟩) ?_
                try simp only [Act.put, zA, zB, zC, zD, zE]
                first
                  | (refine wpGrowV_not rfl rfl ?_)
                  | (refine' wpGrowV_fix _ rfl rfl (fun W hb _ => by go_simp; first | exact xrefl W | exact ⟨rfl, xrefl W⟩) ?_)
                try simp only [Act.put, zA, zB, zC, zD, zE]
                first
                  | (refine wpGrowV_not rfl rfl ?_)
                  | (refine' wpGrowV_fix _ rfl rfl (fun W hb _ => by go_simp; first | exact xrefl W | exact ⟨rfl, xrefl W⟩) ?_)
                try simp only [Act.put, zA, zB, zC, zD, zE]
                first
                  | (refine wpGrowV_not rfl rfl ?_)
                  | (refine' wpGrowV_fix _ rfl rfl (fun W hb _ => by go_simp; first | exact xrefl W | exact ⟨rfl, xrefl W⟩) ?_)
                try simp only [Act.put, zA, zB, zC, zD, zE]
                first
                  | (refine wpGrowV_not rfl rfl ?_)
                  | (refine' wpGrowV_fix _ rfl rfl (fun W hb _ => by have c := cbel hb cO; go_simp; first | exact xrefl W | exact ⟨rfl, xrefl W⟩) ?_)
                try simp only [Act.put, zA, zB, zC, zD, zE]
                first
                  | (refine wpGrowV_not rfl rfl ?_)
                  | (refine' wpGrowV_fix _ rfl rfl (fun W hb _ => by go_simp; first | exact xrefl W | exact ⟨rfl, xrefl W⟩) ?_)
                try simp only [Act.put, zA, zB, zC, zD, zE]
                first
                  | (refine wpGrowV_not rfl rfl ?_)
                  | (refine' wpGrowV_fix _ rfl rfl (fun W hb _ => by have c := cbel hb cL; go_simp; first | exact xrefl W | exact ⟨rfl, xrefl W⟩) ?_)
                try simp only [Act.put, zA, zB, zC, zD, zE]
                refine' wpGrowV_fix (.bool true) rfl rfl (fun W hb _ => by go_simp; first | exact xrefl W | exact ⟨rfl, xrefl W⟩ | (refine ⟨?_, xrefl W⟩; simp; omega)) ?_
                try simp only [Act.put, zA, zB, zC, zD, zE]
                refine' wpGrowV_fix (.bool true) rfl rfl (fun W hb _ => by go_simp; first | exact xrefl W | exact ⟨rfl, xrefl W⟩ | (refine ⟨?_, xrefl W⟩; simp; omega)) ?_
                try simp only [Act.put, zA, zB, zC, zD, zE]
                intro w6 hb6 _
                have hH6 := qh (hHr.out.below hb6)
                have hX6 := qh (hXr.out.below hb6)
                have hbr6 := qh (xtrans hbr.out hb6)
                clear hb6
                go_wp2_with (fail)
                exact ⟨⟨j + 1, by rw [hs2.out, hsn.out], by go_num, by omega, by rw [hs2.out, hsn.out]; exact hH6, hbr6, hX6⟩, by simp [intOf]; omega⟩
              · have h2I : ¬ (x : Int) > (X.last : Int) := by omega
                rw [if_pos (by omega), then_op k1.out] at hsn
                obtain ⟨bc, oc, rfl, hcc, h256⟩ := hcode.out.get hxl
                have cC : wr.cell? ⟨bc, oc + x, none⟩ = some (.int .u8 (byN cs x)) := cbel (xtrans hb2.out hbr.out) hcc
                have hxI : (x : Int) < cs.length := by omega
                have hinf := qh fun W' => refInfo_any (byN cs x) W' h256
                obtain ⟨g1, g2, g3⟩ := info_small _ h256
                have hb256 : (byN cs x : Int) < 256 := by omega
                generalize infoN (byN cs x) = io at *
                obtain ⟨nam, ins, outs, gas, quiet, sz⟩ := io
                simp only at hsn g1 g2 g3
                unfold infoV at hinf
                obtain ⟨a0, a1, lo, h9, ht⟩ := s1
                obtain ⟨m0, m1, m2, m3, m4⟩ := k2
                simp only at m0 m1 m2 m3 m4 hsn
                have hj2 : (j : Int) ≤ 200 := by omega
                have hw1 : IntKind.u64.wrap (a0 + (gas : Int)) = a0 + (gas : Int) := by simp [IntKind.wrap, IntKind.bits, IntKind.signed]; omega
                have hw2 : IntKind.i64.wrap (ht - (ins : Int)) = ht - (ins : Int) := by simp [IntKind.wrap, IntKind.bits, IntKind.signed]; omega
                have hw3 : IntKind.i64.wrap (ht - (ins : Int) + (outs : Int)) = ht - (ins : Int) + (outs : Int) := by simp [IntKind.wrap, IntKind.bits, IntKind.signed]; omega
                obtain ⟨j0, hj0, hy0, hy1, hy2⟩ := info_parts info_oi
                unfold hC3 at hHr
                simp only at hHr
                replace hsn := qh hsn
                clear m0 m1 m2 m3 m4 g1 g2 g3 hcc h256
                go_wp2_with (fail)
                refine' wp_region_growL 16 [fixd _, fixd _, fixd _, fixd _, fixd _, fixd _, fixd _, fixd _, fixd _, fixd _, fixd _, fixd _, fixd _, fixd _, fixd _, fixd _] (by kernel_rfl) (by kernel_rfl) ?_
                rotate_left 16
                simp only [List.take_succ_cons, List.take_zero, List.drop_succ_cons, List.drop_zero]
                try simp only [Act.put, zA, zB, zC, zD, zE]
                refine' wpGrowV_fix _ rfl rfl (fun W hb _ => by go_simp; first | exact xrefl W | exact ⟨rfl, xrefl W⟩) ?_
                try simp only [Act.put, zA, zB, zC, zD, zE]
                refine' wpGrowV_fix _ rfl rfl (fun W hb _ => by go_simp; first | exact xrefl W | exact ⟨rfl, xrefl W⟩) ?_
                try simp only [Act.put, zA, zB, zC, zD, zE]
                refine' wpGrowV_fix _ rfl rfl (fun W hb _ => by go_simp; first | exact xrefl W | exact ⟨rfl, xrefl W⟩) ?_
                try simp only [Act.put, zA, zB, zC, zD, zE]
                refine' wpGrowV_fix _ rfl rfl (fun W hb _ => by have c := cbel hb cO; go_simp; first | exact xrefl W | exact ⟨rfl, xrefl W⟩) ?_
                try simp only [Act.put, zA, zB, zC, zD, zE]
                refine' wpGrowV_fix _ rfl rfl (fun W hb _ => by go_simp; first | exact xrefl W | exact ⟨rfl, xrefl W⟩) ?_
                try simp only [Act.put, zA, zB, zC, zD, zE]
                refine' wpGrowV_fix _ rfl rfl (fun W hb _ => by have c := cbel hb cF; go_simp; first | exact xrefl W | exact ⟨rfl, xrefl W⟩) ?_
                try simp only [Act.put, zA, zB, zC, zD, zE]
                refine' wpGrowV_fix (.bool false) rfl rfl (fun W hb _ => by go_simp; first | exact xrefl W | exact ⟨rfl, xrefl W⟩ | (refine ⟨?_, xrefl W⟩; simp; omega)) ?_
                try simp only [Act.put, zA, zB, zC, zD, zE]
                refine' wpGrowV_fix _ rfl rfl (fun W hb _ => by go_simp; first | exact xrefl W | exact ⟨rfl, xrefl W⟩) ?_
                try simp only [Act.put, zA, zB, zC, zD, zE]
                first
                  | (refine wpGrowV_not rfl rfl ?_)
                  | (refine' wpGrowV_fix _ rfl rfl (fun W hb _ => by go_simp; first | exact xrefl W | exact ⟨rfl, xrefl W⟩) ?_)
                try simp only [Act.put, zA, zB, zC, zD, zE]
                first
                  | (refine wpGrowV_not rfl rfl ?_)
                  | (refine' wpGrowV_fix _ rfl rfl (fun W hb _ => by go_simp; first | exact xrefl W | exact ⟨rfl, xrefl W⟩) ?_)
                try simp only [Act.put, zA, zB, zC, zD, zE]
                first
                  | (refine wpGrowV_not rfl rfl ?_)
                  | (refine' wpGrowV_fix _ rfl rfl (fun W hb _ => by go_simp; first | exact xrefl W | exact ⟨rfl, xrefl W⟩) ?_)
                try simp only [Act.put, zA, zB, zC, zD, zE]
                first
                  | (refine wpGrowV_not rfl rfl ?_)
                  | (refine' wpGrowV_fix _ rfl rfl (fun W hb _ => by have c := cbel hb cO; go_simp; first | exact xrefl W | exact ⟨rfl, xrefl W⟩) ?_)
                try simp only [Act.put, zA, zB, zC, zD, zE]
                first
                  | (refine wpGrowV_not rfl rfl ?_)
                  | (refine' wpGrowV_fix _ rfl rfl (fun W hb _ => by go_simp; first | exact xrefl W | exact ⟨rfl, xrefl W⟩) ?_)
                try simp only [Act.put, zA, zB, zC, zD, zE]
                first
                  | (refine wpGrowV_not rfl rfl ?_)
                  | (refine' wpGrowV_fix _ rfl rfl (fun W hb _ => by have c := cbel hb cL; go_simp; first | exact xrefl W | exact ⟨rfl, xrefl W⟩) ?_)
                try simp only [Act.put, zA, zB, zC, zD, zE]
                refine' wpGrowV_fix (.bool false) rfl rfl (fun W hb _ => by go_simp; first | exact xrefl W | exact ⟨rfl, xrefl W⟩ | (refine ⟨?_, xrefl W⟩; simp; omega)) ?_
                try simp only [Act.put, zA, zB, zC, zD, zE]
                refine' wpGrowV_fix (.bool false) rfl rfl (fun W hb _ => by go_simp; first | exact xrefl W | exact ⟨rfl, xrefl W⟩ | (refine ⟨?_, xrefl W⟩; simp; omega)) ?_
                try simp only [Act.put, zA, zB, zC, zD, zE]
                intro w6 hb6 _
                have hH6 := qh (hHr.out.below hb6)
                have hX6 := qh (hXr.out.below hb6)
                have hbr6 := qh (xtrans hbr.out hb6)
                have cO6 := cbel hb6 cO
                have cC6 := cbel hb6 cC
                clear hb6 cO cC cF cL hHr hXr hbr
                go_wp2_with (first
                  | (go_at_call 70; refine (hinf.out _).mono ?_; rintro e w7 ⟨rfl, hb7⟩; have hH7 := qh (hH6.out.below hb7); have hX7 := qh (hX6.out.below hb7); have hbr7 := qh (xtrans hbr6.out hb7); clear hb7 hH6 hX6 hbr6 cO6 cC6)
                  | (refine wpList_store_blkG rfl 113 _ _ rfl w7.heap.size rfl 113 [.string ⟨#[]⟩, .int .i64 0, .int .i64 0, .int .u64 0, .bool false, .int .i64 0] [.string ⟨nam.toArray⟩, .int .i64 ins, .int .i64 outs, .int .u64 gas, .bool quiet, .int .i64 sz] (BlkG.new w7 _ _) rfl rfl (by kernel_rfl) rfl ?_; intro w8 hI8 ho8; have hb8 := ho8.below (xalloc (xrefl w7) _) (xalloc (xrefl w7) _).size (by rintro k rfl; exact Nat.le_refl _); have hH8 := hH7.out.below hb8; have hX8 := qh (hX7.out.below hb8); have hbr8 := qh (xtrans hbr7.out hb8); have d1 := hI8.cell 1 (by simp); have d2 := hI8.cell 2 (by simp); have d3 := hI8.cell 3 (by simp); have c0 := hH8.cell 0 (by simp); have c1 := hH8.cell 1 (by simp); have c2 := hH8.cell 2 (by simp); have f0 := hH8.free 0; have f1 := hH8.free 1; have f2 := hH8.free 2; simp only [List.getElem_cons_succ, List.getElem_cons_zero] at d1 d2 d3 c0 c1 c2; have hX8l := hX7.out.lt; have hH8l := hH7.out.lt; replace hH8 := qh hH8; replace hI8 := qh hI8; clear ho8 hb8 hH7 hX7 hbr7))
                have hB9 : BlkG ((((w8.setCell ⟨hb, 0, none⟩ (.int .i64 (smallF lo (ht - (ins : Int))))).setCell ⟨hb, 2, none⟩ (.int .i64 (ht - (ins : Int) + (outs : Int)))).setCell ⟨hb, 1, none⟩ (.int .i64 (bigF h9 (ht - (ins : Int) + (outs : Int)))))) hb 64 [.int .i64 (smallF lo (ht - (ins : Int))), .int .i64 (bigF h9 (ht - (ins : Int) + (outs : Int))), .int .i64 (ht - (ins : Int) + (outs : Int))] := ((hH8.out.set 0 (.int .i64 (smallF lo (ht - (ins : Int))))).set 2 (.int .i64 (ht - (ins : Int) + (outs : Int)))).set 1 (.int .i64 (bigF h9 (ht - (ins : Int) + (outs : Int))))
                have ho9 : Only (· = hb) w8 ((((w8.setCell ⟨hb, 0, none⟩ (.int .i64 (smallF lo (ht - (ins : Int))))).setCell ⟨hb, 2, none⟩ (.int .i64 (ht - (ins : Int) + (outs : Int)))).setCell ⟨hb, 1, none⟩ (.int .i64 (bigF h9 (ht - (ins : Int) + (outs : Int)))))) := Only.setCell (O := (· = hb)) (Only.setCell (O := (· = hb)) (Only.setCell (O := (· = hb)) (Only.refl _ _) _ _ rfl) _ _ rfl) _ _ rfl
                have hX11 := qh (hX8.out.only ho9 (by omega))
                have hbr11 := qh (ho9.below hbr8.out hbr8.out.size (by rintro j rfl; rw [hhb.out]; omega))
                have hH11 := qh hB9
                exact ⟨⟨j + 1, by rw [hs2.out, hsn.out], by go_num, by omega, by rw [hs2.out, hsn.out]; exact hH11, hbr11, hX11⟩, by simp [intOf]; omega⟩
          · obtain rfl : j = os.length := by omega
            obtain ⟨k1, k2⟩ := hkeep.out os.length
            rw [List.take_length, hs0.out] at hHr k1 k2 ⊢
            have hnxt : Hid (OneS s0 ∧ SmS (6400000 * ((i + 1 : Nat) : Int)) s0) := qh ⟨k1, sm_up k2 (by omega)⟩
            clear k1 k2
            have cN2 := hXr.out.cell 2 (by simp)
            simp only [List.getElem_cons_succ, List.getElem_cons_zero] at cN2
            have hwi : IntKind.i64.wrap ((i : Int) + 1) = (i : Int) + 1 := by simp [IntKind.wrap, IntKind.bits, IntKind.signed]; omega
            have hrl := pickN_lt ps i X.next.length hnl
            obtain ⟨r, hr⟩ : ∃ r, r = pickN ps i X.next.length := ⟨_, rfl⟩
            have e2 := e.out
            rw [← hr] at hrl e2
            have hgd : X.next.getD r 0 = X.next[r] := by simp [List.getD_eq_getElem?_getD, hrl]
            rw [hgd] at e2
            obtain ⟨nb, no, rfl, hcn⟩ := hI.out.get hrl
            have cX := cbel hbr.out hcn
            have hrI : (r : Int) < X.next.length := by omega
            generalize X.next[r] = kn at *
            have e3 : Hid (goesF cs bs en (pickN ps) (100 - (i + 1)) (i + 1) kn s0 = some t) := qh (by rw [show 100 - (i + 1) = 99 - i by omega]; exact e2)
            clear e e2 hgd hcn hrow hkeep
            unfold pickN at hr
            by_cases hip : i < ps.length
            · rw [if_pos hip] at hr
              have hipI : (i : Int) < ps.length := by omega
              obtain ⟨pb2, po2, rfl, hcp, hp256⟩ := hpk.out.get hip
              have cP : wr.cell? ⟨pb2, po2 + i, none⟩ = some (.int .u8 (byN ps i)) := cbel (xtrans hb2.out hbr.out) hcp
              have htm : Hid (Int.tmod (byN ps i : Int) (X.next.length : Int) = (r : Int)) := qh (by rw [hr, Int.natCast_emod]; exact Int.tmod_eq_emod_of_nonneg (by omega))
              replace hr := qh hr
              have hwp : IntKind.i64.wrap (byN ps i : Int) = (byN ps i : Int) := by simp [IntKind.wrap, IntKind.bits, IntKind.signed]; omega
              have hn3 := hn2.out
              replace htm := htm.out
              generalize byN ps i = pk at *
              go_wp2_with (fail)
              refine' wp_region_growL 9 [fixd _, fixd _, fixd _, fixd _, fixd _, fixd _, fixd _, fixd _, fixd _] (by kernel_rfl) (by kernel_rfl) ?_
              rotate_left 9
              simp only [List.take_succ_cons, List.take_zero, List.drop_succ_cons, List.drop_zero]
              try simp only [Act.put, zA, zB, zC, zD, zE]
              refine' wpGrowV_fix _ rfl rfl (fun W hb _ => by go_simp; first | exact xrefl W | exact ⟨rfl, xrefl W⟩) ?_
              try simp only [Act.put, zA, zB, zC, zD, zE]
              refine' wpGrowV_fix _ rfl rfl (fun W hb _ => by go_simp; first | exact xrefl W | exact ⟨rfl, xrefl W⟩) ?_
              try simp only [Act.put, zA, zB, zC, zD, zE]
              refine' wpGrowV_fix _ rfl rfl (fun W hb _ => by go_simp; first | exact xrefl W | exact ⟨rfl, xrefl W⟩) ?_
              try simp only [Act.put, zA, zB, zC, zD, zE]
              refine' wpGrowV_fix _ rfl rfl (fun W hb _ => by have c := cbel hb cP; go_simp; first | exact xrefl W | exact ⟨rfl, xrefl W⟩) ?_
              try simp only [Act.put, zA, zB, zC, zD, zE]
              refine' wpGrowV_fix _ rfl rfl (fun W hb _ => by go_simp; first | exact xrefl W | exact ⟨rfl, xrefl W⟩) ?_
              try simp only [Act.put, zA, zB, zC, zD, zE]
              refine' wpGrowV_fix _ rfl rfl (fun W hb _ => by go_simp; first | exact xrefl W | exact ⟨rfl, xrefl W⟩) ?_
              try simp only [Act.put, zA, zB, zC, zD, zE]
              refine' wpGrowV_fix _ rfl rfl (fun W hb _ => by have c := cbel hb cN2; go_simp; first | exact xrefl W | exact ⟨rfl, xrefl W⟩) ?_
              try simp only [Act.put, zA, zB, zC, zD, zE]
              refine' wpGrowV_fix _ rfl rfl (fun W hb _ => by go_simp; first | exact xrefl W | exact ⟨rfl, xrefl W⟩) ?_
              try simp only [Act.put, zA, zB, zC, zD, zE]
              refine' wpGrowV_fix (.int .i64 (r : Nat)) rfl rfl (fun W hb _ => by go_simp; first | exact xrefl W | exact ⟨rfl, xrefl W⟩) ?_
              try simp only [Act.put, zA, zB, zC, zD, zE]
              intro w6 hb6 _
              have hH6 := qh (hHr.out.below hb6)
              have hbr6 := qh (xtrans hbr.out hb6)
              have cN3 := cbel hb6 cN2
              have cX3 := cbel hb6 cX
              clear hb6 cN2 cX cP
              go_wp2_with (fail)
              exact ⟨⟨i + 1, kn, s0, rfl, rfl, by go_num, by omega, e3, hnxt, hH6, hbr6⟩, by simp [intOf]; omega⟩
            · rw [if_neg hip] at hr
              subst hr
              simp only [Nat.add_zero] at cX
              have hipI : ¬ (i : Int) < ps.length := by omega
              go_wp2_with (fail)
              exact ⟨⟨i + 1, kn, s0, rfl, rfl, by go_num, by omega, e3, hnxt, hHr, hbr⟩, by simp [intOf]; omega⟩
end
end Go.Proofs.YtijkdabmegbcjaaGreatDoor
