/- Texts of this claim, merged; no condition. -/
import Derived.Test.YtijkdabmegbcjaaGreatDoorT36
import Derived.Test.YtijkdabmegbcjaaGreatDoorT43
import Derived.Test.YtijkdabmegbcjaaGreatDoorTA
set_option linter.all false
namespace Go.Proofs.YtijkdabmegbcjaaGreatDoor
open Go.RowKit Go.Shelf
theorem results_tmp_blkG {P : Program} {fn : Func} {p r : Tmp} {ty : TypeId} (h : fn.results = #[.tmp p, .cell r ty]) (tmps : Array Value) (w : World) (b : Nat) (T : TypeId) (vs : List Value) (d : TypeDesc)
    (hp : tmps.getD r undef = .pointer (some ⟨b, 0, none⟩)) (hB : BlkG w b T vs) (hu : P.underlying ty = some d) (hd : (match d with | .struct _ | .array _ _ => true | _ => false) = true) (hi : (P.info? ty).map (·.size) = some vs.length) :
    (results fn tmps).run P w = .ok (.tuple #[tmps.getD p undef, .agg vs.toArray]) w := by
  have hp' : tmps[r]?.getD undef = .pointer (some ⟨b, 0, none⟩) := by simpa using hp
  simp [results, h, hp', asAddr, run_loadVar_row w b T ty _ (0, 0) d hB hu hd (by simpa using hi), Sem.run_bind]
theorem MapB.getB {lo : Nat} {w : World} {mb : Nat} {bs : List BlkN} (h : MapB lo w mb bs) (hfi : ∀ B ∈ bs, findB bs B.first = some B) (k : Nat) :
    ∃ l p q, w.heap[mb]? = some (mapI .i64 l) ∧ (findI k l).getD (.agg #[.int .i64 0, .int .i64 0, .slice none 0 0, .bool false]) = blkV p q (blkOf bs k) ∧ IntsAt w p q (blkOf bs k).next := by
  obtain ⟨l, h1, ⟨h2, h3⟩ | ⟨j, hj, p, q, hjk, -, hf, hI, -⟩⟩ := h.find k
  · have hn : findB bs k = none := by
      unfold findB
      rw [List.find?_eq_none]
      intro b hb e
      have := h3 b hb
      simp at e
      omega
    refine ⟨l, none, 0, h1, ?_, ?_⟩
    · rw [h2]; unfold blkOf; rw [hn]; rfl
    · unfold blkOf; rw [hn]
      exact ⟨fun i hi => absurd hi (by simp [natI, blk0]), fun _ => rfl⟩
  · have e : blkOf bs k = bs[j] := by
      have h4 := hfi _ (List.getElem_mem hj)
      have : bs[j].first = k := by omega
      rw [this] at h4
      unfold blkOf; rw [h4]; rfl
    exact ⟨l, p, q, h1, by rw [hf, e]; rfl, by rw [e]; exact hI⟩
def seenN (cs : List Nat) (n : Int) : Option (Nat × StN × KnS) := match atZ cs n with
  | none => none
  | some first => if byN cs n.toNat = 87 ∧ (fixedZ cs n).isSome = true ∧ (meetZ (blksN cs) cs.length first).isSome = true ∧ (blkOf (blksN cs) first).exit = false then
      (sidesG (fromF cs (blksN cs) ((meetZ (blksN cs) cs.length first).getD 0) ((blksN cs).length + 1)) [] (blkOf (blksN cs) first).next).map fun x => ((meetZ (blksN cs) cs.length first).getD 0, x.1, x.2)
    else none
theorem atZ_in2 {cs : List Nat} {n : Int} {x : Nat} (h : atZ cs n = some x) : ∃ i : Nat, n = i ∧ i < cs.length := by
  unfold atZ at h
  split at h
  · rename_i h0
    refine ⟨n.toNat, by omega, ?_⟩
    by_cases hm : n.toNat ∈ opsL cs
    · exact opsL_lt hm
    · rw [atN_out hm] at h; cases h
  · cases h
def LookR (cs : List Nat) (a : Option Addr) (c : Nat) (r : Option (Nat × StN × KnS)) (e : Ending) (W : World) : Prop := match r with
  | none => e = .panicked noneP
  | some (en, s, σ) => ∃ lb mb kb db, e = .returned (.tuple #[.pointer (some ⟨lb, 0, none⟩), .agg (regC en s).toArray]) ∧ BlkG W lb 146 (LookC a cs.length c mb en kb db) ∧ KnAt W kb db σ
theorem look_new (w : World) (T : TypeId) (vs : List Value) (w5 : World) (h5 : w5 = (((w.alloc (.map #[] 0)).alloc (.map #[] 0)).alloc (.map #[] 0)).alloc (.cells vs.toArray T)) :
    w5.heap[w.heap.size]? = some (mapI .i64 []) ∧ w5.heap[w.heap.size + 1]? = some (mapI .i64 []) ∧ w5.heap[w.heap.size + 1 + 1]? = some (mapI .i64 []) ∧ BlkG w5 (w.heap.size + 1 + 1 + 1) T vs ∧ w5.heap.size = w.heap.size + 1 + 1 + 1 + 1 ∧ Below w.heap.size w w5 := by
  have e : (Obj.map #[] 0) = mapI .i64 [] := by simp [mapI, entI]
  subst h5
  have h1 := World.alloc_heap_new w (.map #[] 0)
  have h2 := World.alloc_heap_new (w.alloc (.map #[] 0)) (.map #[] 0)
  have h3 := World.alloc_heap_new ((w.alloc (.map #[] 0)).alloc (.map #[] 0)) (.map #[] 0)
  have h4 := BlkG.new (((w.alloc (.map #[] 0)).alloc (.map #[] 0)).alloc (.map #[] 0)) T vs
  have s1 : (w.alloc (.map #[] 0)).heap.size = w.heap.size + 1 := World.size_alloc _ _
  have s2 : ((w.alloc (.map #[] 0)).alloc (.map #[] 0)).heap.size = w.heap.size + 1 + 1 := by rw [World.size_alloc, s1]
  have s3 : (((w.alloc (.map #[] 0)).alloc (.map #[] 0)).alloc (.map #[] 0)).heap.size = w.heap.size + 1 + 1 + 1 := by rw [World.size_alloc, s2]
  have b1 : Below w.heap.size w (w.alloc (.map #[] 0)) := xalloc (xrefl _) _
  have b2 : Below (w.alloc (.map #[] 0)).heap.size (w.alloc (.map #[] 0)) ((w.alloc (.map #[] 0)).alloc (.map #[] 0)) := xalloc (xrefl _) _
  have b3 : Below ((w.alloc (.map #[] 0)).alloc (.map #[] 0)).heap.size ((w.alloc (.map #[] 0)).alloc (.map #[] 0)) (((w.alloc (.map #[] 0)).alloc (.map #[] 0)).alloc (.map #[] 0)) := xalloc (xrefl _) _
  have b4 : Below (((w.alloc (.map #[] 0)).alloc (.map #[] 0)).alloc (.map #[] 0)).heap.size (((w.alloc (.map #[] 0)).alloc (.map #[] 0)).alloc (.map #[] 0)) ((((w.alloc (.map #[] 0)).alloc (.map #[] 0)).alloc (.map #[] 0)).alloc (.cells vs.toArray T)) := xalloc (xrefl _) _
  rw [← e]
  rw [s1] at h2
  rw [s2] at h3
  rw [s3] at h4
  refine ⟨?_, ?_, ?_, h4, by rw [World.size_alloc, s3], xtrans (xtrans (xtrans b1 b2) b3) b4⟩
  · exact (b4.block _ (by omega)).trans ((b3.block _ (by omega)).trans ((b2.block _ (by omega)).trans h1))
  · exact (b4.block _ (by omega)).trans ((b3.block _ (by omega)).trans h2)
  · exact (b4.block _ (by omega)).trans h3
theorem unK_nil (bs : List BlkN) : unK bs [] < bs.length + 1 := Nat.lt_succ_of_le List.countP_le_length
section
variable {cs : List Nat} {a : Option Addr} {c : Nat}
set_option maxRecDepth 100000 in
set_option maxHeartbeats 8000000 in
theorem seen_any (n : Int) (W : World) (h : CodeAt W a c cs) (hl : cs.length ≤ 100) :
    Calls Tryz.prog 69 #[.slice a cs.length c, .int .i64 n] W fun e W' => LookR cs a c (seenN cs n) e W' ∧ Below W.heap.size W W' := by
  obtain ⟨i0, hi0, hz0, hz1, hz2⟩ := info_parts info_reg
  have g := graph_code cs
  have hbl := blksN_len cs
  have hgfi : ∀ B ∈ blksN cs, findB (blksN cs) B.first = some B := fun B hB => g.find hB
  have hrg := Tryz.underlying59
  have hb0 : Below W.heap.size W (W.alloc (.cells #[.int .i64 0, .int .u64 0, .int .u64 0, .int .i64 0, .int .i64 0, .int .i64 0] 59)) := xalloc (xrefl W) _
  have hR0 : Hid (BlkG (W.alloc (.cells #[.int .i64 0, .int .u64 0, .int .u64 0, .int .i64 0, .int .i64 0, .int .i64 0] 59)) W.heap.size 59 (regC 0 zeroS)) := qh (BlkG.new W _ _)
  have hs0 : W.heap.size < (W.alloc (.cells #[.int .i64 0, .int .u64 0, .int .u64 0, .int .i64 0, .int .i64 0, .int .i64 0] 59)).heap.size := by rw [World.size_alloc]; omega
  have hat := qh (at_any cs n a c _ (h.below hb0))
  replace hb0 := qh hb0
  have hfx := qh fun W' hb => fixed_any cs n a c W' (h.below hb)
  have hcode := qh h
  have hmt := qh fun (k : Nat) W' hb => meetM_any cs (k : Int) a c W' (h.below hb) hl
  have hbk := qh fun W' hb => blocks_own cs a c W' (h.below hb)
  have hok := h.ok
  clear h
  obtain ⟨R, hRe⟩ : ∃ R, R = seenN cs n := ⟨_, rfl⟩
  rw [← hRe]
  unfold seenN at hRe
  go_enter Tryz.func69, Tryz.ntmps69
  cases hfirst : atZ cs n with
  | none =>
    rw [hfirst] at hRe hat
    have hRn : R = none := hRe
    subst hRn
    clear hRe
    unfold atV at hat
    simp only [Option.getD_none, Option.isSome_none] at hat
    go_wp2_with (first
      | (go_at_call 16; refine hat.out.mono ?_; rintro e w1 ⟨rfl, hb1⟩; replace hb1 := qh (xtrans hb0.out hb1))
      | (go_at_call 100; refine (must_false _).mono ?_; rintro e w' ⟨rfl, rfl⟩))
    exact ⟨rfl, rfl, hb1.out⟩
  | some first =>
    rw [hfirst] at hRe hat
    dsimp only at hRe
    unfold atV at hat
    simp only [Option.getD_some, Option.isSome_some] at hat
    obtain ⟨i, rfl, hil⟩ := atZ_in2 hfirst
    have hilI : (i : Int) < cs.length := by omega
    have hcell := qh fun W' hb => (hcode.out.below (w' := W') hb).get hil
    rw [Int.toNat_natCast] at hRe
    by_cases h57 : byN cs i = 87
    · have h57I : ((byN cs i : Int) == 87) = true := by rw [beq_iff_eq]; omega
      have hmm1 : ∀ w, (Instr.makeMap 87 none).run Tryz.prog w = .ok (.map (some w.heap.size)) (w.alloc (.map #[] 0)) := fun _ => rfl
      have hmm2 : ∀ w, (Instr.makeMap 139 none).run Tryz.prog w = .ok (.map (some w.heap.size)) (w.alloc (.map #[] 0)) := fun _ => rfl
      have hmm3 : ∀ w, (Instr.makeMap 95 none).run Tryz.prog w = .ok (.map (some w.heap.size)) (w.alloc (.map #[] 0)) := fun _ => rfl
      have hnl : Hid (∀ x, ((wordL x).map (Value.int .u64)).length = 4) := qh fun x => by simp [wordL]
      have hmtf := qh fun W' hb => hmt.out first W' hb
      clear hmt
      generalize byN cs i = op at *
      obtain ⟨fz, hfz⟩ : ∃ fz, fixedZ cs (i : Int) = fz := ⟨_, rfl⟩
      obtain ⟨mz, hmz⟩ : ∃ mz, meetZ (blksN cs) cs.length (first : Int) = mz := ⟨_, rfl⟩
      rw [hfz] at hfx hRe
      rw [hmz] at hmtf hRe
      unfold optV wordV at hfx
      unfold atV at hmtf
      replace hfz := qh hfz
      replace hmz := qh hmz
      by_cases hfm : fz.isSome = true ∧ mz.isSome = true
      · obtain ⟨hf1, hm1⟩ := hfm
        rw [hf1] at hfx
        rw [hm1] at hmtf
        rw [hf1, hm1] at hRe
        generalize mz.getD 0 = en at *
        generalize fz.getD 0 = fx at *
        clear hf1 hm1
        go_wp2_with (first
          | (go_at_call 16; refine hat.out.mono ?_; rintro e w1 ⟨rfl, hb1⟩; have hR1 := qh (hR0.out.below hb1); obtain ⟨bc, oc, rfl, hcc, hc256⟩ := hcell.out w1 (xtrans hb0.out hb1); replace hb1 := qh (xtrans hb0.out hb1))
          | (go_at_call 100; refine (must_true _).mono ?_; rintro e w' ⟨rfl, rfl⟩)
          | (go_at_call 18; refine (hfx.out _ hb1.out).mono ?_; rintro e w2 ⟨rfl, hb2⟩; have hR2 := qh (hR1.out.below hb2); replace hb2 := qh (xtrans hb1.out hb2))
          | (refine wpList_store_blkG rfl 32 _ _ rfl w2.heap.size rfl 32 [.int .u64 0, .int .u64 0, .int .u64 0, .int .u64 0] ((wordL fx).map (Value.int .u64)) (BlkG.new w2 _ _) rfl rfl (by rw [hnl.out]; kernel_rfl) rfl ?_; intro w3 hI3 ho3; have hb3 := ho3.below (xalloc (xrefl w2) _) (xalloc (xrefl w2) _).size (by rintro k rfl; exact Nat.le_refl _); have hR3 := qh (hR2.out.below hb3); replace hb3 := qh (xtrans hb2.out hb3); clear ho3 hI3)
          | (go_at_call 26; refine (hmtf.out _ hb3.out).mono ?_; rintro e w4 ⟨rfl, hb4⟩; have hR4 := qh (hR3.out.below hb4); replace hb4 := qh (xtrans hb3.out hb4); clear hb1 hb2 hb3 hR1 hR2 hR3)
          | (go_at_call 14; obtain ⟨m1, m2, m3, lB, ls, lbel⟩ := look_new w4 146 (LookC (some ⟨bc, oc, none⟩) cs.length c w4.heap.size en (w4.heap.size + 1) (w4.heap.size + 1 + 1)) _ rfl; refine (hbk.out _ (xtrans hb4.out lbel)).mono ?_; rintro e w6 ⟨⟨v, rfl, hK⟩, hb6⟩; obtain ⟨a1, c1, rfl, -, hrows⟩ := hK.rows; have hlow : Hid (W.heap.size ≤ (((((w4.alloc (.map #[] 0)).alloc (.map #[] 0)).alloc (.map #[] 0)).alloc (.cells (LookC (some ⟨bc, oc, none⟩) cs.length c w4.heap.size en (w4.heap.size + 1) (w4.heap.size + 1 + 1)).toArray 146)) : World).heap.size) := qh (by have := hR4.out.lt; rw [ls]; omega); have hs6 := hb6.size; rw [ls] at hs6; have hm6 := qh ((hb6.block _ (by rw [ls]; omega)).trans m1); have hk6 := qh ((hb6.block _ (by rw [ls]; omega)).trans m2); have hd6 := qh ((hb6.block _ (by rw [ls]; omega)).trans m3); have hL6 := qh (lB.below hb6); have hW4 := hR4.out.lt; have hb06 := qh (xtrans (xtrans hb4.out lbel) hb6); have hR6 := qh ((hR4.out.below lbel).below hb6); replace hrows := qh hrows; clear hK hb6 m1 m2 m3 lB lbel ls hR4))
        have hu := Tryz.underlying51
        clear hmm1 hmm2 hmm3 hat hfx hmtf hnl hcc hbk
        generalize (((((w4.alloc (.map #[] 0)).alloc (.map #[] 0)).alloc (.map #[] 0)).alloc (.cells (LookC (some ⟨bc, oc, none⟩) cs.length c w4.heap.size en (w4.heap.size + 1) (w4.heap.size + 1 + 1)).toArray 146)) : World) = w5 at *
        generalize hbs : blksN cs = bs at *
        replace hbs := qh hbs
        have hd : Hid (∀ i j (hi : i < j) (hj : j < bs.length), (bs[i]'(by omega)).first ≠ bs[j].first) := qh fun i j hi hj e => by
          have h1 := List.pairwise_iff_getElem.1 g.nodup i j (by simp [keysB]; omega) (by simpa [keysB] using hj) hi
          simp only [keysB, List.getElem_map] at h1
          exact h1 e
        obtain ⟨mb, hmb⟩ : ∃ mb, w4.heap.size = mb := ⟨_, rfl⟩
        rw [hmb] at hs6 hm6 hk6 hd6 hL6 hW4 ⊢
        clear hmb
        have hM0 : Hid (MapB W.heap.size w6 mb (bs.take 0)) := qh ⟨[], hm6.out, rfl, fun j hj => absurd hj (by simp)⟩
        replace hRe := qh hRe
        go_loopw [59] (fun iv wx => ∃ t : Nat, t ≤ bs.length ∧ iv = .int .i64 t ∧ Hid (MapB W.heap.size wx mb (bs.take t)) ∧ Hid (Only (· = mb) w6 wx)) (fun iv _ => bs.length - (intOf iv).toNat)
        case atStart => exact ⟨0, by omega, rfl, hM0, qh (Only.refl _ _)⟩
        case round =>
          clear hM0
          obtain ⟨t, ht, rfl, hM, hon⟩ := hrel
          have cg0 : wr.cell? ⟨mb + 1 + 1 + 1, 1, none⟩ = some (.map (some mb)) := hon.out.cell (hL6.out.cell 1 (by simp [LookC])) (by show ¬ mb + 1 + 1 + 1 = mb; omega)
          by_cases hlt : t < bs.length
          · have hltI : (t : Int) < bs.length := by omega
            obtain ⟨b, o, p, q, rfl, hr, hI, hlo⟩ := hrows.out t hlt
            have hlo2 : Hid (bs[t].next ≠ [] → ∀ x, p = some x → W.heap.size ≤ x.block) := qh fun h x hx => Nat.le_trans hlow.out (hlo h x hx)
            clear hlo
            have hm3' : w6.heap[mb]? = some (mapI .i64 []) := hm6.out
            replace hr := range_off hr (by unfold blkC; simp) hm3' hon.out
            replace hI := hI.map_off hm3' hon.out
            have htk : Hid (bs.take (t + 1) = bs.take t ++ [bs[t]]) := qh (by rw [List.take_add_one, List.getElem?_eq_getElem hlt]; rfl)
            have hli : (bs.take t).length = t := by rw [List.length_take]; omega
            have hnew : Hid (∀ j (h : j < (bs.take t).length), (((bs.take t)[j]).first : Int) ≠ (bs[t].first : Int)) := qh fun j hj e => hd.out j t (by omega) hlt (by rw [List.getElem_take] at e; omega)
            replace hr : wr.rangeAt b (o + t * 4) [.int .i64 bs[t].first, .int .i64 bs[t].last, .slice p bs[t].next.length q, .bool bs[t].exit] := hr
            generalize bs.take t = T at *
            generalize bs[t] = B at *
            have hwi : IntKind.i64.wrap ((t : Int) + 1) = (t : Int) + 1 := by simp [IntKind.wrap, IntKind.bits, IntKind.signed]; omega
            replace hr := qh hr
            replace hI := qh hI
            obtain ⟨l, hm1, hm2, hmj⟩ := hM.out
            have hml : mb < wr.heap.size := (Array.getElem?_eq_some_iff.1 hm1).1
            replace hm1 := qh hm1
            replace hmj := qh hmj
            clear hm3'
            go_wp2_with (first
              | (refine wpList_load_mid rfl 51 _ rfl b (o + t * 4) rfl [.int .i64 B.first, .int .i64 B.last, .slice p B.next.length q, .bool B.exit] _ hr.out hu rfl (by kernel_rfl) ?_)
              | (refine wpList_store_blkG rfl 51 _ _ rfl wr.heap.size rfl 51 [.int .i64 0, .int .i64 0, .slice none 0 0, .bool false] [.int .i64 B.first, .int .i64 B.last, .slice p B.next.length q, .bool B.exit] (BlkG.new wr _ _) rfl rfl (by kernel_rfl) rfl ?_; intro w8 hX4 ho4; have hb8 := qh (ho4.below (xalloc (xrefl wr) _) (by rw [World.size_alloc]; omega) (by rintro k rfl; omega)); have hc4 : w8.cell? ⟨wr.heap.size, 0, none⟩ = some (.int .i64 B.first) := (by simpa using hX4.range 0 _ rfl); have hm4 := qh ((hb8.out.block mb hml).trans hm1.out); replace cg0 := cbel hb8.out cg0; replace hX4 := qh hX4; clear ho4))
            refine' wp_region_growL 7 [fixd _, fixd _, fixd _, fixd _, fixd _, fixd _, fixd _] (by kernel_rfl) (by kernel_rfl) ?_
            rotate_left 7
            simp only [List.take_succ_cons, List.take_zero, List.drop_succ_cons, List.drop_zero]
            try simp only [Act.put, zA, zB, zC, zD, zE]
            refine' wpGrowV_fix _ rfl rfl (fun W hb _ => by go_simp; first | exact xrefl W | exact ⟨rfl, xrefl W⟩) ?_
            try simp only [Act.put, zA, zB, zC, zD, zE]
            refine' wpGrowV_fix _ rfl rfl (fun W hb _ => by go_simp; first | exact xrefl W | exact ⟨rfl, xrefl W⟩) ?_
            try simp only [Act.put, zA, zB, zC, zD, zE]
            refine' wpGrowV_fix _ rfl rfl (fun W hb _ => by go_simp; first | exact xrefl W | exact ⟨rfl, xrefl W⟩) ?_
            try simp only [Act.put, zA, zB, zC, zD, zE]
            refine' wpGrowV_fix _ rfl rfl (fun W hb _ => by have c := cbel hb cg0; go_simp; first | exact xrefl W | exact ⟨rfl, xrefl W⟩) ?_
            try simp only [Act.put, zA, zB, zC, zD, zE]
            refine' wpGrowV_fix _ rfl rfl (fun W hb _ => by go_simp; first | exact xrefl W | exact ⟨rfl, xrefl W⟩) ?_
            try simp only [Act.put, zA, zB, zC, zD, zE]
            refine' wpGrowV_fix _ rfl rfl (fun W hb _ => by have c := cbel hb hc4; go_simp; first | exact xrefl W | exact ⟨rfl, xrefl W⟩) ?_
            try simp only [Act.put, zA, zB, zC, zD, zE]
            refine' wpGrowV_load_blkG rfl 51 _ rfl wr.heap.size rfl 51 [.int .i64 B.first, .int .i64 B.last, .slice p B.next.length q, .bool B.exit] _ hX4.out hu (by kernel_rfl) rfl ?_
            try simp only [Act.put, zA, zB, zC, zD, zE]
            intro w9 hb9 _
            have hm5 := (hb9.block mb (by have := hb8.out.size; omega)).trans hm4.out
            go_wp2_with (refine wpList_putI rfl _ 3 51 .i64 _ _ _ rfl (by kernel_rfl) (by kernel_rfl) mb B.first (.agg #[.int .i64 B.first, .int .i64 B.last, .slice p B.next.length q, .bool B.exit]) l rfl rfl rfl hm5 ?_; intro w10 hm6 ho6; replace hm6 := qh hm6; replace ho6 := qh ho6)
            have hb9' := qh (xtrans hb8.out hb9)
            refine ⟨⟨t + 1, by omega, by go_num, ?_, qh (hon.out.trans ((Below.only hb9'.out).trans ho6.out))⟩, by simp [intOf]; omega⟩
            rw [htk.out]
            have hne : ∀ x ∈ l, x.1 ≠ (B.first : Int) := fun x hx e => by
              obtain ⟨j, hj, rfl⟩ := List.getElem_of_mem hx
              obtain ⟨p', q', e', -⟩ := hmj.out j (by omega)
              rw [List.getElem?_eq_getElem hj] at e'
              exact hnew.out j (by omega) (by rw [Option.some.inj e'] at e; exact e)
            have hm7 := hm6.out
            rw [updI_new hne] at hm7
            refine qh ⟨_, hm7, by simp [hm2], fun j hj => ?_⟩
            by_cases e : j = T.length
            · subst e
              refine ⟨p, q, ?_, ?_, ?_⟩
              · rw [List.getElem?_append_right (by omega)]
                simp [hm2]; rfl
              · simp only [List.getElem_append_right (Nat.le_refl _), Nat.sub_self, List.getElem_cons_zero]
                exact (hI.out.below hb9'.out).map_off hm5 ho6.out
              · simp only [List.getElem_append_right (Nat.le_refl _), Nat.sub_self, List.getElem_cons_zero]
                exact hlo2.out
            · have hj' : j < T.length := by simp at hj; omega
              obtain ⟨p', q', e', hI', hx'⟩ := hmj.out j hj'
              rw [List.getElem_append_left hj']
              exact ⟨p', q', by rw [List.getElem?_append_left (by omega)]; exact e', (hI'.below hb9'.out).map_off hm5 ho6.out, hx'⟩
          · obtain rfl : t = bs.length := by omega
            rw [List.take_length] at hM
            obtain ⟨lB, pB, qB, hmB, hvB, hIB⟩ := hM.out.getB hgfi first
            have hzB : ∀ w, (zeroValue 51).run Tryz.prog w = .ok (.agg #[.int .i64 0, .int .i64 0, .slice none 0 0, .bool false]) w := fun _ => by kernel_rfl
            have hbW := hon.out.below hb06.out hb06.out.size (by rintro j rfl; omega)
            have hLr := hL6.out.only hon.out (by omega)
            have hRr := qh (hR6.out.only hon.out (by omega))
            have hkr := (hon.out.same (mb + 1) (by omega) (by omega)).trans hk6.out
            have hdr := (hon.out.same (mb + 1 + 1) (by omega) (by omega)).trans hd6.out
            have hKr : Hid (KnAt wr (mb + 1) (mb + 1 + 1) []) := qh ⟨[], [], hkr, hdr, KnL.nil⟩
            have hEr : Hid (EnvR cs bs (some ⟨bc, oc, none⟩) c (mb + 1 + 1 + 1) mb en (mb + 1) (mb + 1 + 1) W.heap.size wr) := qh ⟨hcode.out.below hbW, hLr, hM.out, (fun e => by rcases e with e | e <;> omega), (fun e => by rcases e with e | e <;> omega), by omega⟩
            have hnxt : ∀ k, ∀ x ∈ (blkOf bs k).next, x ∈ bs.map (·.first) := fun k x hx => by
              unfold blkOf at hx
              cases hfb : findB bs k with
              | none => rw [hfb] at hx; cases hx
              | some B =>
                rw [hfb] at hx
                exact g.next B (List.mem_of_find?_eq_some hfb) x hx
            have hnl2 : ∀ k, (blkOf bs k).next.length ≤ 200 := fun k => by
              unfold blkOf
              cases hfb : findB bs k with
              | none => simp [blk0]
              | some B => have := g.len B (List.mem_of_find?_eq_some hfb); simp; omega
            have hside := sides_any (bs.length + 1) (from_sound (fun k _ => hnxt k) _) (from_any hok (by omega) (by omega) hgfi (fun k _ => hnxt k) (fun B hB => by have := g.len B hB; omega) (bs.length + 1)) [] (blkOf bs first).next pB qB wr (InvK.nil _ _ _) hEr.out hKr.out (hnxt first) (hnl2 first) hIB (unK_nil bs)
            replace hvB : (findI first lB).getD (.agg #[.int .i64 0, .int .i64 0, .slice none 0 0, .bool false]) = .agg #[.int .i64 (blkOf bs first).first, .int .i64 (blkOf bs first).last, .slice pB (blkOf bs first).next.length qB, .bool (blkOf bs first).exit] := hvB
            have hst := Tryz.underlying142
            obtain ⟨j0, hj0, hy0, hy1, hy2⟩ := info_parts info_st
            replace hy0 : j0.zero = some (.agg #[.int .u64 0, .int .u64 0, .int .i64 0, .int .i64 0, .int .i64 0]) := hy0
            replace hside := qh hside
            replace hmB := qh hmB
            replace hLr := qh hLr
            replace hbW := qh hbW
            have hRe2 := hRe.out
            generalize blkOf bs first = B at *
            clear hu hnxt hnl2 hkr hdr hIB hM hrows hd hRe hEr
            cases hex : B.exit with
            | true =>
              rw [hex] at hRe2 hvB
              have hRn : R = none := by rw [hRe2, if_neg (by simp)]
              subst hRn
              replace hvB := qh hvB
              go_wp2_with (refine wpList_lookI rfl 87 3 51 .i64 _ _ false rfl (by kernel_rfl) (by kernel_rfl) hzB first mb lB rfl rfl hmB.out ?_; rw [if_neg (by decide), hvB.out])
              rename_i K hK
              refine (hK (Act.put _ (some 77) (.bool true)) _ ?_ : K _ _)
              go_wp2_with (first
                | (refine wpList_lookI rfl 87 3 51 .i64 _ _ false rfl (by kernel_rfl) (by kernel_rfl) hzB first mb lB rfl rfl hmB.out ?_; rw [if_neg (by decide), hvB.out])
                | (go_at_call 100; refine (must_false _).mono ?_; rintro e w' ⟨rfl, rfl⟩))
              exact ⟨rfl, rfl, hbW.out⟩
            | false =>
              rw [hex] at hRe2 hvB
              rw [if_pos ⟨h57, by trivial, by trivial, by trivial⟩] at hRe2
              replace hvB := qh hvB
              cases hsd : sidesG (fromF cs bs en (bs.length + 1)) [] B.next with
              | none =>
                rw [hsd] at hRe2 hside
                have hRn : R = none := hRe2
                subst hRn
                unfold FromR at hside
                go_wp2_with (refine wpList_lookI rfl 87 3 51 .i64 _ _ false rfl (by kernel_rfl) (by kernel_rfl) hzB first mb lB rfl rfl hmB.out ?_; rw [if_neg (by decide), hvB.out])
                rename_i K hK
                refine (hK (Act.put _ (some 77) (.bool false)) _ ?_ : K _ _)
                go_wp2_with (first
                  | (refine wpList_lookI rfl 87 3 51 .i64 _ _ false rfl (by kernel_rfl) (by kernel_rfl) hzB first mb lB rfl rfl hmB.out ?_; rw [if_neg (by decide), hvB.out])
                  | (go_at_call 100; refine (must_true _).mono ?_; rintro e w' ⟨rfl, rfl⟩))
                rename_i K2 hK2
                refine (hK2 (Act.put _ (some 87) (.slice pB B.next.length qB)) _ ?_ : K2 _ _)
                go_wp2_with (first
                  | (go_at_call 101; refine hside.out.mono ?_; rintro e w11 ⟨ho11, rfl, -⟩; have hb11 := qh (ho11.below hbW.out hbW.out.size (by rintro j (rfl | rfl) <;> omega))))
                exact ⟨rfl, rfl, hb11.out⟩
              | some xr =>
                obtain ⟨sr, σ2⟩ := xr
                rw [hsd] at hRe2 hside
                have hRn : R = some (en, sr, σ2) := hRe2
                subst hRn
                unfold FromR stV at hside
                go_wp2_with (refine wpList_lookI rfl 87 3 51 .i64 _ _ false rfl (by kernel_rfl) (by kernel_rfl) hzB first mb lB rfl rfl hmB.out ?_; rw [if_neg (by decide), hvB.out])
                rename_i K hK
                refine (hK (Act.put _ (some 77) (.bool false)) _ ?_ : K _ _)
                go_wp2_with (first
                  | (refine wpList_lookI rfl 87 3 51 .i64 _ _ false rfl (by kernel_rfl) (by kernel_rfl) hzB first mb lB rfl rfl hmB.out ?_; rw [if_neg (by decide), hvB.out])
                  | (go_at_call 100; refine (must_true _).mono ?_; rintro e w' ⟨rfl, rfl⟩))
                rename_i K2 hK2
                refine (hK2 (Act.put _ (some 87) (.slice pB B.next.length qB)) _ ?_ : K2 _ _)
                go_wp2_with (first
                  | (go_at_call 101; refine hside.out.mono ?_; rintro e w11 ⟨ho11, rfl, hK11⟩; have hb11 := ho11.below hbW.out hbW.out.size (by rintro j (rfl | rfl) <;> omega); have hR11 := qh (hRr.out.only ho11 (by rintro (e | e) <;> omega)); have hL11 := qh (hLr.out.only ho11 (by rintro (e | e) <;> omega)); have hsz11 := ho11.size; replace hb11 := qh hb11; replace hK11 := qh hK11; clear ho11)
                  | (refine wpList_store_blkG rfl 142 _ _ rfl w11.heap.size rfl 142 (stC zeroS) (stC sr) (BlkG.new w11 _ _) rfl rfl (by kernel_rfl) rfl ?_; intro w12 hX12 ho12; have hb12 := ho12.below (xalloc (xrefl w11) _) (xalloc (xrefl w11) _).size (by rintro k rfl; exact Nat.le_refl _); have hR12 := qh (hR11.out.below hb12); have hL12 := qh (hL11.out.below hb12); have hK12 := qh (hK11.out.below hb12); have d0 := hX12.cell 0 (by simp [stC]); have d1 := hX12.cell 1 (by simp [stC]); have d2 := hX12.cell 2 (by simp [stC]); have d3 := hX12.cell 3 (by simp [stC]); have d4 := hX12.cell 4 (by simp [stC]); simp only [stC, List.getElem_cons_succ, List.getElem_cons_zero] at d0 d1 d2 d3 d4; replace hb12 := qh (xtrans hb11.out hb12); clear ho12 hX12))
                refine' wp_region_growL 18 [fixd _, fixd _, fixd _, fixd _, fixd _, fixd _, fixd _, fixd _, fixd _, fixd _, fixd _, fixd _, fixd _, fixd _, fixd _, fixd _, fixd _, fixd _] (by kernel_rfl) (by kernel_rfl) ?_
                rotate_left 18
                simp only [List.take_succ_cons, List.take_zero, List.drop_succ_cons, List.drop_zero]
                try simp only [Act.put, zA, zB, zC, zD, zE]
                refine' wpGrowV_fix _ rfl rfl (fun W hb _ => by go_simp; first | exact xrefl W | exact ⟨rfl, xrefl W⟩) ?_
                try simp only [Act.put, zA, zB, zC, zD, zE]
                refine' wpGrowV_fix _ rfl rfl (fun W hb _ => by go_simp; first | exact xrefl W | exact ⟨rfl, xrefl W⟩) ?_
                try simp only [Act.put, zA, zB, zC, zD, zE]
                refine' wpGrowV_fix _ rfl rfl (fun W hb _ => by go_simp; first | exact xrefl W | exact ⟨rfl, xrefl W⟩) ?_
                try simp only [Act.put, zA, zB, zC, zD, zE]
                refine' wpGrowV_fix _ rfl rfl (fun W hb _ => by go_simp; first | exact xrefl W | exact ⟨rfl, xrefl W⟩) ?_
                try simp only [Act.put, zA, zB, zC, zD, zE]
                refine' wpGrowV_fix _ rfl rfl (fun W hb _ => by have c := cbel hb d0; go_simp; first | exact xrefl W | exact ⟨rfl, xrefl W⟩) ?_
                try simp only [Act.put, zA, zB, zC, zD, zE]
                refine' wpGrowV_fix _ rfl rfl (fun W hb _ => by go_simp; first | exact xrefl W | exact ⟨rfl, xrefl W⟩) ?_
                try simp only [Act.put, zA, zB, zC, zD, zE]
                refine' wpGrowV_fix _ rfl rfl (fun W hb _ => by go_simp; first | exact xrefl W | exact ⟨rfl, xrefl W⟩) ?_
                try simp only [Act.put, zA, zB, zC, zD, zE]
                refine' wpGrowV_fix _ rfl rfl (fun W hb _ => by have c := cbel hb d1; go_simp; first | exact xrefl W | exact ⟨rfl, xrefl W⟩) ?_
                try simp only [Act.put, zA, zB, zC, zD, zE]
                refine' wpGrowV_fix _ rfl rfl (fun W hb _ => by go_simp; first | exact xrefl W | exact ⟨rfl, xrefl W⟩) ?_
                try simp only [Act.put, zA, zB, zC, zD, zE]
                refine' wpGrowV_fix _ rfl rfl (fun W hb _ => by go_simp; first | exact xrefl W | exact ⟨rfl, xrefl W⟩) ?_
                try simp only [Act.put, zA, zB, zC, zD, zE]
                refine' wpGrowV_fix _ rfl rfl (fun W hb _ => by have c := cbel hb d2; go_simp; first | exact xrefl W | exact ⟨rfl, xrefl W⟩) ?_
                try simp only [Act.put, zA, zB, zC, zD, zE]
                refine' wpGrowV_fix _ rfl rfl (fun W hb _ => by go_simp; first | exact xrefl W | exact ⟨rfl, xrefl W⟩) ?_
                try simp only [Act.put, zA, zB, zC, zD, zE]
                refine' wpGrowV_fix _ rfl rfl (fun W hb _ => by go_simp; first | exact xrefl W | exact ⟨rfl, xrefl W⟩) ?_
                try simp only [Act.put, zA, zB, zC, zD, zE]
                refine' wpGrowV_fix _ rfl rfl (fun W hb _ => by have c := cbel hb d3; go_simp; first | exact xrefl W | exact ⟨rfl, xrefl W⟩) ?_
                try simp only [Act.put, zA, zB, zC, zD, zE]
                refine' wpGrowV_fix _ rfl rfl (fun W hb _ => by go_simp; first | exact xrefl W | exact ⟨rfl, xrefl W⟩) ?_
                try simp only [Act.put, zA, zB, zC, zD, zE]
                refine' wpGrowV_fix _ rfl rfl (fun W hb _ => by have c := cbel hb d4; go_simp; first | exact xrefl W | exact ⟨rfl, xrefl W⟩) ?_
                try simp only [Act.put, zA, zB, zC, zD, zE]
                refine' wpGrowV_fix _ rfl rfl (fun W hb _ => by go_simp; first | exact xrefl W | exact ⟨rfl, xrefl W⟩) ?_
                try simp only [Act.put, zA, zB, zC, zD, zE]
                refine' wpGrowV_fix _ rfl rfl (fun W hb _ => by go_simp; first | exact xrefl W | exact ⟨rfl, xrefl W⟩) ?_
                try simp only [Act.put, zA, zB, zC, zD, zE]
                intro w13 hb13 _
                have hR13 := qh (hR12.out.below hb13)
                have hL13 := qh (hL12.out.below hb13)
                have hK13 := qh (hK12.out.below hb13)
                have hb013 := qh (xtrans hb12.out hb13)
                have hsz13 := hb13.size
                have hsz12 := hb12.out.size
                clear hb13
                go_wp2_with (refine wpList_store_blkG rfl 59 _ _ rfl W.heap.size rfl 59 (regC 0 zeroS) (regC en sr) hR13.out rfl rfl (by kernel_rfl) rfl ?_; intro w14 hX14 ho14; have hb14 := qh (ho14.below hb013.out hb013.out.size (by rintro k rfl; omega)); have hL14 := qh (hL13.out.only ho14 (by omega)); have hK14 := qh (hK13.out.only ho14 (by omega) (by omega)); replace hX14 := qh hX14; clear ho14)
                exact bodyPost_ret (results_tmp_blkG (p := 4) (r := 5) rfl _ _ W.heap.size 59 (regC en sr) _ rfl hX14.out hrg rfl (by kernel_rfl)) rfl ⟨⟨mb + 1 + 1 + 1, mb, mb + 1, mb + 1 + 1, rfl, hL14.out, hK14.out⟩, hb14.out⟩
      · have hRn : R = none := by
          rw [hRe, if_neg (fun h => hfm ⟨h.2.1, h.2.2.1⟩)]
        subst hRn
        clear hRe
        obtain ⟨f1, hf1⟩ : ∃ f1, fz.isSome = f1 := ⟨_, rfl⟩
        obtain ⟨m1, hm1⟩ : ∃ m1, mz.isSome = m1 := ⟨_, rfl⟩
        rw [hf1, hm1] at hfm
        rw [hf1] at hfx
        rw [hm1] at hmtf
        generalize mz.getD 0 = en at *
        generalize fz.getD 0 = fx at *
        clear hf1 hm1
        cases f1 <;> cases m1
        case true.true => exact absurd ⟨rfl, rfl⟩ hfm
        all_goals
          clear hfm
          go_wp2_with (first
            | (go_at_call 16; refine hat.out.mono ?_; rintro e w1 ⟨rfl, hb1⟩; obtain ⟨bc, oc, rfl, hcc, hc256⟩ := hcell.out w1 (xtrans hb0.out hb1); replace hb1 := qh (xtrans hb0.out hb1))
            | (go_at_call 100; refine (must_true _).mono ?_; rintro e w' ⟨rfl, rfl⟩)
            | (go_at_call 100; refine (must_false _).mono ?_; rintro e w' ⟨rfl, rfl⟩)
            | (go_at_call 18; refine (hfx.out _ hb1.out).mono ?_; rintro e w2 ⟨rfl, hb2⟩; replace hb2 := qh (xtrans hb1.out hb2))
            | (refine wpList_store_blkG rfl 32 _ _ rfl w2.heap.size rfl 32 [.int .u64 0, .int .u64 0, .int .u64 0, .int .u64 0] ((wordL fx).map (Value.int .u64)) (BlkG.new w2 _ _) rfl rfl (by rw [hnl.out]; kernel_rfl) rfl ?_; intro w3 hI3 ho3; have hb3 := ho3.below (xalloc (xrefl w2) _) (xalloc (xrefl w2) _).size (by rintro k rfl; exact Nat.le_refl _); replace hb3 := qh (xtrans hb2.out hb3); clear ho3 hI3)
            | (go_at_call 26; refine (hmtf.out _ hb3.out).mono ?_; rintro e w4 ⟨rfl, hb4⟩; replace hb4 := qh (xtrans hb3.out hb4); clear hb1 hb2 hb3))
          exact ⟨rfl, rfl, hb4.out⟩
    · rw [if_neg (fun h => h57 h.1)] at hRe
      subst hRe
      have h57I : ((byN cs i : Int) == 87) = false := by rw [beq_eq_false_iff_ne]; omega
      generalize byN cs i = op at *
      go_wp2_with (first
        | (go_at_call 16; refine hat.out.mono ?_; rintro e w1 ⟨rfl, hb1⟩; obtain ⟨bc, oc, rfl, hcc, hc256⟩ := hcell.out w1 (xtrans hb0.out hb1); replace hb1 := qh (xtrans hb0.out hb1))
        | (go_at_call 100; refine (must_false _).mono ?_; rintro e w' ⟨rfl, rfl⟩))
      exact ⟨rfl, rfl, hb1.out⟩
end
end Go.Proofs.YtijkdabmegbcjaaGreatDoor
