/- The program's walk over blocks: its iterator. -/
import Derived.Test.YtijkdabmegbcjaaDoorM29
set_option linter.all false
namespace Go.Proofs.YtijkdabmegbcjaaDoor
open Go.RowKit Go.Shelf
attribute [local go_sem] Oper.semAt_some

set_option maxRecDepth 100000 in
set_option maxHeartbeats 4000000 in
theorem walk_seq (cs : List Nat) (n : Int) (mbx nbx mb lo : Nat) (W0 W : World) (h : WkAt cs n mbx nbx mb lo W0) (hW : Below W0.heap.size W0 W) :
    SeqP Tryd.prog 36 #[.pointer (some ⟨mbx, 0, none⟩), .pointer (some ⟨nbx, 0, none⟩)] encS (WkRd lo W0) (fun xs => xs = walkZ cs n) (fun pre => ∃ k, k ≤ (walkZ cs n).length ∧ pre = (walkZ cs n).take k) (walkZ cs n).length false W := by
  intro l0 J Jx hJ hJx hY h0 _
  have hbox : W.cell? ⟨mbx, 0, none⟩ = some (.map (some mb)) := cbel hW h.box
  have hnum : W.cell? ⟨nbx, 0, none⟩ = some (.int .i64 n) := cbel hW h.num
  have hold : Hid (Old lo W0 W) := Lib.hid fun k hk => hW.block k hk.2
  have hsz0 := hW.size
  have hmm : ∀ w, (Instr.makeMap 26 none).run Tryd.prog w = .ok (.map (some w.heap.size)) (w.alloc (.map #[] 0)) := fun _ => rfl
  replace hJ := Lib.hid hJ
  replace hJx := Lib.hid hJx
  replace hY := Lib.hid hY
  replace h0 := Lib.hid h0
  refine callsIn_of_wp Tryd.func36 rfl trivial ?_ rfl
  simp only [Tryd.ntmps36, List.size_toArray, List.length_cons, List.length_nil, Nat.reduceAdd, Nat.reduceSub, Array.replicate_succ, Array.replicate_zero, List.push_toArray, List.append_toArray, List.nil_append, List.cons_append]
  have hz : ∀ w, (zeroValue 29).run Tryd.prog w = .ok (.agg #[.int .i64 0, .int .i64 0, .slice none 0 0, .bool false]) w := fun _ => by kernel_rfl
  have hb2 := Lib.hid (xalloc (xalloc (xrefl W) (mapI .i64 [])) (mapI .i64 []))
  have hs1 : Hid (OneAt ((W.alloc (mapI .i64 [])).alloc (mapI .i64 [])) W.heap.size []) := Lib.hid ((OneAt.new W).below (xalloc (xrefl _) _))
  have hs2 : Hid (OneAt ((W.alloc (mapI .i64 [])).alloc (mapI .i64 [])) (W.heap.size + 1) []) := Lib.hid (by have := OneAt.new (W.alloc (mapI .i64 [])); rwa [World.size_alloc] at this)
  have hX0 : Hid (BlkG (((W.alloc (mapI .i64 [])).alloc (mapI .i64 [])).alloc (.cells #[.int .i64 0, .int .i64 0, .slice none 0 0, .bool false] 29)) (W.heap.size + 1 + 1) 29 [.int .i64 0, .int .i64 0, .slice none 0 0, .bool false]) := Lib.hid (by have := BlkG.new ((W.alloc (mapI .i64 [])).alloc (mapI .i64 [])) 29 [.int .i64 0, .int .i64 0, .slice none 0 0, .bool false]; rwa [World.size_alloc, World.size_alloc] at this)
  have hb3 := Lib.hid (xalloc hb2.out (.cells #[.int .i64 0, .int .i64 0, .slice none 0 0, .bool false] 29))
  have hs3 := Lib.hid (hs1.out.below (xalloc (xrefl _) (.cells #[.int .i64 0, .int .i64 0, .slice none 0 0, .bool false] 29)))
  have hs4 := Lib.hid (hs2.out.below (xalloc (xrefl _) (.cells #[.int .i64 0, .int .i64 0, .slice none 0 0, .bool false] 29)))
  have hbox2 := cbel hb2.out hbox
  have hnum2 := cbel hb2.out hnum
  refine wpIn_scope_wide ?_
  refine wpIn_wide.2 ?_
  obtain ⟨l, hm, hfind⟩ := ((h.map.below hW).below hb2.out).find n
  replace hm := Lib.hid hm
  rcases hfind with ⟨hf, hno⟩ | ⟨j, hj, p, q, hjn, hjf, hf, hI, hlo⟩
  · have hwz : Hid (walkZ cs n = []) := Lib.hid (walkZ_none (List.find?_eq_none.2 fun b hb => by have := hno b hb; simpa using this))
    replace hno := Lib.hid hno
    go_wp2_with (first
      | (refine wpList_mk rfl 26 rfl ?_)
      | (refine wpList_lookI rfl 76 3 29 .i64 _ _ true rfl (by kernel_rfl) (by kernel_rfl) hz n mb l rfl rfl hm.out ?_; rw [hf])
      | (refine wpList_store_blkG rfl 29 _ _ rfl (W.heap.size + 1 + 1) rfl 29 _ [.int .i64 0, .int .i64 0, .slice none 0 0, .bool false] hX0.out rfl rfl (by kernel_rfl) rfl ?_; intro w2 hX2 ho2; have hs5 := Lib.hid (hs3.out.only ho2 (by omega)); have hs6 := Lib.hid (hs4.out.only ho2 (by omega)); have hb4 := Lib.hid (ho2.below hb3.out hb3.out.size (by rintro k rfl; omega)); replace ho2 := Lib.hid ho2; replace hX2 := Lib.hid hX2; obtain ⟨l6, hl6, hk6, hv6⟩ := hs6.out; have hl6n : l6 = [] := (by cases l6 <;> simp [natI] at hk6 ⊢); subst hl6n))
    refine (wpIn_wide (n := 0)).1 ?_
    refine wpIn_label ?_
    go_wp2
    go_loopw [5, 8] (fun nv dv wx => nv = .map (some (W.heap.size + 1)) ∧ dv = .int .i64 0 ∧ wx = w2) (fun _ _ _ => 0)
    case atStart => exact ⟨rfl, rfl, rfl⟩
    case round =>
      obtain ⟨rfl, rfl, rfl⟩ := hrel
      go_wp2_with (refine wpList_lenI rfl _ 26 3 3 .i64 rfl (by kernel_rfl) (W.heap.size + 1) [] rfl hl6 ?_)
      rw [Exit.noGoto_normal]
      go_end0
      exact ⟨⟨_, rfl⟩, .inl ⟨[], fun _ => False, hwz.out.symm, fun k h => h.elim, hJ.out (fun _ => False) (fun _ => False) [] W _ h0.out (fun k h => h.elim) ⟨hb4.out.os, hb4.out.tape, hb4.out.output, hb4.out.size, fun k hk _ => hb4.out.block k hk⟩ (fun k h => h.elim)⟩⟩
  · have hfz : findZ (blksN cs) n = some (blksN cs)[j] := by
      unfold findZ
      rw [List.find?_eq_some_iff_getElem]
      exact ⟨by simpa using hjn, j, hj, rfl, fun i hi => by have := hjf i hi; simpa using this⟩
    obtain ⟨k, rfl, hk, hI0⟩ := WalkI.start hfz
    replace hf : findI (k : Int) l = some (.agg #[.int .i64 (blksN cs)[j].first, .int .i64 (blksN cs)[j].last, .slice p (blksN cs)[j].next.length q, .bool (blksN cs)[j].exit]) := hf
    generalize (blksN cs)[j] = B at *
    replace hI0 := Lib.hid hI0
    replace hI := Lib.hid hI
    replace hjn := Lib.hid hjn
    clear hjf hlo hfz
    go_wp2_with (first
      | (refine wpList_mk rfl 26 rfl ?_)
      | (refine wpList_lookI rfl 76 3 29 .i64 _ _ true rfl (by kernel_rfl) (by kernel_rfl) hz k mb l rfl rfl hm.out ?_; rw [hf])
      | (refine wpList_store_blkG rfl 29 _ _ rfl (W.heap.size + 1 + 1) rfl 29 _ [.int .i64 B.first, .int .i64 B.last, .slice p B.next.length q, .bool B.exit] hX0.out rfl rfl (by kernel_rfl) rfl ?_; intro w2 hX2 ho2; have hs5 := Lib.hid (hs3.out.only ho2 (by omega)); have hs6 := hs4.out.only ho2 (by omega); have hb4 := Lib.hid (ho2.below hb3.out hb3.out.size (by rintro k rfl; omega)); have hnum4 := cbel hb4.out hnum; replace ho2 := Lib.hid ho2; replace hX2 := Lib.hid hX2; obtain ⟨l6, hl6, hk6, hv6⟩ := hs6; replace hl6 := Lib.hid hl6; replace hk6 := Lib.hid hk6; replace hv6 := Lib.hid hv6)
      | (refine wpList_putI rfl _ 3 3 .i64 _ _ _ rfl (by kernel_rfl) (by kernel_rfl) (W.heap.size + 1) (k : Int) (.int .i64 1) l6 rfl rfl rfl hl6.out ?_; intro w5 hm5 ho5; have hn5 := Lib.hid (OneAt.upd (W := w5) (bm := W.heap.size + 1) hk6.out hv6.out k hm5); have hs7 := Lib.hid (hs5.out.only ho5 (by omega)); have hb5 := Lib.hid (ho5.below hb4.out hb4.out.size (by rintro k rfl; omega)); clear hm5 ho5))
    refine (wpIn_wide (n := 0)).1 ?_
    refine wpIn_label ?_
    go_wp2
    have hO1 : Hid (Old lo W0 w5) := Lib.hid (hold.out.below hsz0 hb5.out)
    have hJ5 : Hid (J (fun i => W.heap.size ≤ i ∧ i < w5.heap.size) [] w5) := Lib.hid (hJ.out (fun _ => False) _ [] W w5 h0.out (fun k h => h.elim) ⟨hb5.out.os, hb5.out.tape, hb5.out.output, hb5.out.size, fun k hk _ => hb5.out.block k hk⟩ (fun i hi => .inr hi.1))
    go_loopw [5, 8] (fun nv dv wx => ∃ (nb d fu : Nat) (S now KS KN : List Nat) (pre : List (Nat × Nat)) (O : Nat → Prop), nv = .map (some nb) ∧ dv = .int .i64 d ∧ d ≤ 300 ∧ W.heap.size < nb ∧ Hid (now ≠ [] → WalkI cs k S now d fu pre) ∧ Hid (now = [] → pre = walkZ cs k) ∧ Hid (OneAt wx W.heap.size KS) ∧ Hid (OneAt wx nb KN) ∧ Hid (KN.Nodup ∧ setL KN = now) ∧ Hid (∀ x, x ∈ S ↔ x ∈ KS ∨ x ∈ now) ∧ Hid (Old lo W0 wx) ∧ Hid (J O pre wx) ∧ Hid (∀ i, O i → W.heap.size ≤ i ∧ i < wx.heap.size) ∧ Hid (O W.heap.size ∧ O nb) ∧ W.heap.size ≤ wx.heap.size) (fun nv dv wx => 600 - (intOf dv).toNat)
    case atStart => exact ⟨W.heap.size + 1, 0, cs.length, [k], [k], [], [k], [], _, rfl, rfl, by omega, by omega, Lib.hid (fun _ => hI0.out), Lib.hid (fun h => absurd h (by simp)), hs7, hn5, Lib.hid ⟨by simp, rfl⟩, Lib.hid (by simp), hO1, hJ5, Lib.hid (fun i hi => hi), Lib.hid ⟨⟨Nat.le_refl _, hs7.out.lt⟩, ⟨by omega, hn5.out.lt⟩⟩, hb5.out.size⟩
    case round =>
      obtain ⟨nb, d, fu, S, now, KS, KN, pre, O, rfl, rfl, hd, hnb, hWI, hend, hS, hN, hKN, hKS, hOl, hJs, hOb, hOO, hsz⟩ := hrel
      obtain ⟨ln, hl1, hl2, hl3⟩ := hN.out
      have hll : ln.length = KN.length := by have := congrArg List.length hl2; simpa [natI] using this
      by_cases h9 : now = []
      · have hk0 : KN = [] := by
          have e := hKN.out.2
          rw [h9] at e
          cases hk : KN with
          | nil => rfl
          | cons x K =>
            have hx := (mem_setL KN x).2 (by rw [hk]; simp)
            rw [e] at hx
            simp at hx
        have hl0 : ln = [] := List.length_eq_zero_iff.1 (by rw [hll, hk0]; rfl)
        subst hl0
        replace hl1 := Lib.hid hl1
        replace h9 := Lib.hid h9
        clear hl2 hl3 hll hk0
        go_wp2_with (refine wpList_lenI rfl _ 26 3 3 .i64 rfl (by kernel_rfl) nb [] rfl hl1.out ?_)
        rw [Exit.noGoto_normal]
        go_end0
        exact ⟨⟨_, rfl⟩, .inl ⟨pre, O, hend.out h9.out, fun k h => (hOb.out k h).1, hJs.out⟩⟩
      · have hwi := hWI.out h9
        have hKN2 := hKN.out
        have hKl : KN.length ≤ 200 := by
          have h1 := nodup_le hKN2.1 (n := cs.length) (fun x hx => hwi.lt x (hwi.sub x (by rw [← hKN2.2]; exact (mem_setL _ _).2 hx)))
          have h2 := h.len
          omega
        have hnl : now.length ≤ 200 := by rw [← hKN.out.2]; exact Nat.le_trans (setL_len KN) hKl
        have hpos : 0 < ln.length := by rw [hll]; exact List.length_pos_iff.2 (fun e => h9 (by rw [← hKN2.2, e]; rfl))
        have hposI : (0 : Int) < ln.length := by omega
        have hsort := Lib.hid fun W1 (hm1 : W1.heap[nb]? = some (mapI .i64 ln)) => sortedI_any ln KN nb W1 hm1 hl2 hKN2.1 (by omega)
        rw [hKN2.2] at hsort
        have hnlt := (Array.getElem?_eq_some_iff.1 hl1).1
        have hl4 := Lib.hid (((xalloc (xrefl wr) (mapI .i64 [])).block nb hnlt).trans hl1)
        have hb6 := Lib.hid (xalloc (xrefl wr) (mapI .i64 []))
        replace hl1 := Lib.hid hl1
        replace h9 := Lib.hid h9
        replace hwi := Lib.hid hwi
        have hl2h := Lib.hid hl2
        clear hll hl2 hl3 hKN2
        go_wp2_with (first
          | (refine wpList_lenI rfl _ 26 3 3 .i64 rfl (by kernel_rfl) nb ln rfl hl1.out ?_)
          | (refine wpList_mk rfl 26 rfl ?_)
          | (go_at_call 22; refine (hsort.out _ hl4.out).mono ?_; rintro e w6 ⟨⟨v6, rfl, hv6⟩, hb7⟩; obtain ⟨y, qy, rfl, hY6, hx6⟩ := hv6.at; replace hY6 := Lib.hid hY6; replace hx6 := Lib.hid hx6; have hx7 := Lib.hid ((OneAt.new wr).below hb7); replace hb7 := Lib.hid (xtrans hb6.out hb7); clear hv6))
        have hwr0 : W.heap.size < wr.heap.size := hS.out.lt
        have hyw : Hid (∀ x, y = some x → wr.heap.size < x.block) := Lib.hid (fun x hx => by have := hx6.out x hx; rw [World.size_alloc] at this; omega)
        have hs06 : W0.heap.size ≤ w6.heap.size := by have := hb7.out.size; omega
        have hs6 : W.heap.size ≤ w6.heap.size := by have := hb7.out.size; omega
        have hJ6 : Hid (J (fun i => O i ∨ wr.heap.size ≤ i ∧ i < w6.heap.size) pre w6) := Lib.hid (hJ.out O _ pre wr w6 hJs.out (fun i hi => (hOb.out i hi).1) ⟨hb7.out.os, hb7.out.tape, hb7.out.output, hb7.out.size, fun k hk _ => hb7.out.block k hk⟩ (fun i hi => hi.elim .inl (fun x => .inr x.1)))
        have hO6 : Hid (Old lo W0 w6) := Lib.hid (hOl.out.below (by omega) hb7.out)
        have hS6 : Hid (OneAt w6 W.heap.size KS) := Lib.hid (hS.out.below hb7.out)
        have hm6 : Hid (w6.heap[nb]? = some (mapI .i64 ln)) := Lib.hid ((hb7.out.block nb hnlt).trans hl1.out)
        have hs76 : wr.heap.size ≤ w6.heap.size := hb7.out.size
        generalize hnx : wr.heap.size = nx at *
        replace hnx := Lib.hid hnx
        go_loopw [35] (fun jv wx => ∃ (i : Nat) (O2 : Nat → Prop), i ≤ now.length ∧ jv = .int .i64 i ∧ Hid (OneAt wx W.heap.size (addAll KS (now.take i))) ∧ Hid (OneAt wx nx []) ∧ Hid (wx.heap[nb]? = some (mapI .i64 ln)) ∧ Hid (IntsAt wx y qy now) ∧ Hid (Old lo W0 wx) ∧ Hid (J O2 (pre ++ (now.take i).map (fun x => (x, d))) wx) ∧ Hid (∀ i, O2 i → W.heap.size ≤ i ∧ i < wx.heap.size) ∧ Hid (O2 W.heap.size ∧ O2 nb ∧ O2 nx ∧ ∀ x, y = some x → O2 x.block) ∧ w6.heap.size ≤ wx.heap.size) (fun jv wx => now.length - (intOf jv).toNat)
        case atStart => exact ⟨0, (fun i => O i ∨ nx ≤ i ∧ i < w6.heap.size), by omega, rfl, Lib.hid (by rw [List.take_zero]; exact hS6.out), hx7, hm6, hY6, hO6, Lib.hid (by rw [List.take_zero, List.map_nil, List.append_nil]; exact hJ6.out), Lib.hid (fun i hi => hi.elim (fun hi => ⟨(hOb.out i hi).1, by have := (hOb.out i hi).2; have := hnx.out; omega⟩) (fun hi => ⟨Nat.le_trans hsz hi.1, hi.2⟩)), Lib.hid ⟨.inl hOO.out.1, .inl hOO.out.2, .inr ⟨Nat.le_refl _, hx7.out.lt⟩, fun x hx => .inr ⟨Nat.le_of_lt (hyw.out x hx), hY6.out.lt h9.out hx⟩⟩, Nat.le_refl _⟩
        case round =>
          obtain ⟨i, O2, hi, rfl, hS7, hx8, hm7, hY7, hO7, hJ7, hOb7, hOO7, hsz7⟩ := hrel
          by_cases hlt : i < now.length
          · have hltI : (i : Int) < now.length := by omega
            obtain ⟨yb, yo, rfl, hcy⟩ := hY7.out.get hlt
            have htk : Hid (now.take (i + 1) = now.take i ++ [now[i]]) := Lib.hid (by rw [List.take_add_one, List.getElem?_eq_getElem hlt]; rfl)
            have hll : (pre ++ (now.take i).map (fun x => (x, d))).length = pre.length + i := by rw [List.length_append, List.length_map, List.length_take]; omega
            have hsp : Hid ((pre ++ (now.take i).map (fun x => (x, d))) ++ [(now[i], d)] = (walkZ cs k).take (pre.length + (i + 1)) ∧ pre.length + (i + 1) ≤ (walkZ cs k).length) := Lib.hid (by
              have ha := hwi.out.all
              rw [← ha]
              constructor
              · rw [List.take_length_add_append, List.take_append_of_le_length (by rw [List.length_map]; omega), ← List.map_take, htk.out, List.map_append, List.append_assoc]; rfl
              · rw [List.length_append, List.length_append, List.length_map]; omega)
            have hmp : Hid ((pre ++ (now.take i).map (fun x => (x, d))) ++ [(now[i], d)] = pre ++ (now.take (i + 1)).map (fun x => (x, d))) := Lib.hid (by rw [htk.out, List.map_append, List.append_assoc]; rfl)
            have hadd : Hid (addAll KS (now.take (i + 1)) = addK (addAll KS (now.take i)) now[i]) := Lib.hid (by rw [htk.out, addAll_snoc])
            generalize now[i] = z at *
            have hyz := Lib.hid (fun w8 (ho8 : Only (· = W.heap.size) wr w8) => hY.out O2 _ (z, d) w8 (fun k hk => ⟨(hOb7.out k hk).1, Nat.lt_of_lt_of_le (hOb7.out k hk).2 ho8.size⟩) (hJ.out O2 O2 _ wr w8 hJ7.out (fun i hi => (hOb7.out i hi).1) (ho8.mono fun _ _ e => by rw [e]; exact hOO7.out.1) (fun i hi => .inl hi)) (by have := hsp.out.2; omega) ⟨_, hsp.out.2, hsp.out.1⟩)
            obtain ⟨ls, hls1, hls2, hls3⟩ := hS7.out
            replace hls1 := Lib.hid hls1
            replace hls2 := Lib.hid hls2
            replace hls3 := Lib.hid hls3
            clear hll
            refine (wpIn_wide (n := 0)).1 ?_
            gi_wp2_with (refine wpListIn_putI rfl _ 3 3 .i64 _ _ _ rfl (by kernel_rfl) (by kernel_rfl) W.heap.size (z : Int) (.int .i64 1) ls rfl rfl rfl hls1.out ?_; intro w8 hm8 ho8; have hn8 := Lib.hid (OneAt.upd (W := w8) (bm := W.heap.size) hls2.out hls3.out z hm8); obtain ⟨fnc, tmps, assign, body, hy, hR⟩ := hyz.out w8 ho8; simp only [encS] at hy; replace hR := Lib.hid hR; replace ho8 := Lib.hid ho8; clear hm8)
            refine ⟨rfl, hR.out.mono ?_⟩
            rintro e W3 (⟨rfl, hJ3, hk3⟩ | ⟨rfl, hJx3, hk3⟩)
            · gi_wp2
              have hlt8 := ho8.out.size
              have hlt9 := hk3.size
              have hnbl : nb < wr.heap.size := (Array.getElem?_eq_some_iff.1 hm7.out).1
              refine ⟨⟨i + 1, O2, by omega, by go_num, Lib.hid (by rw [hadd.out]; exact hn8.out.keep hk3 (.inl hOO7.out.1)), Lib.hid ((hx8.out.only ho8.out (by omega)).keep hk3 (.inl hOO7.out.2.2.1)),
                Lib.hid ((hk3.same nb (by omega) (.inl hOO7.out.2.1)).trans ((ho8.out.same nb hnbl (by omega)).trans hm7.out)), Lib.hid ((hY7.out.only0 ho8.out (fun _ x hx => by have := hyw.out x hx; omega)).keep0 hk3 (fun _ x hx => .inl (hOO7.out.2.2.2 x hx))),
                Lib.hid ((hO7.out.only (by omega) ho8.out (by rintro k rfl; omega)).keep (by omega) hk3), Lib.hid (by rw [← hmp.out]; exact hJ3), Lib.hid (fun j hj => ⟨(hOb7.out j hj).1, by have := (hOb7.out j hj).2; omega⟩), hOO7, by omega⟩, ?_⟩
              simp [intOf]; omega
            · gi_wp2
              rw [Exit.noGoto_normal]
              go_end0
              exact ⟨⟨_, rfl⟩, .inr ⟨_, O2, ⟨pre.length + (i + 1), hsp.out.2, hsp.out.1⟩, fun k hk => (hOb7.out k hk).1, hJx3⟩⟩
          · obtain rfl : i = now.length := by omega
            rw [List.take_length] at hS7 hJ7
            have hrg := range_mapI (P := Tryd.prog) (t := 26) Tryd.underlying26 hm7.out
            have hb9 : Below wr.heap.size wr (wr.alloc (itO nb ln.length [])) := xalloc (xrefl wr) _
            obtain ⟨it, hit⟩ : ∃ it, it = wr.heap.size := ⟨_, rfl⟩
            have hi9 : (wr.alloc (itO nb ln.length [])).heap[it]? = some (itO nb ln.length []) := by rw [hit]; exact World.alloc_heap_new wr _
            have hnxl : nx < wr.heap.size := hx8.out.lt
            have hnbl : nb < wr.heap.size := (Array.getElem?_eq_some_iff.1 hm7.out).1
            have hs9 : (wr.alloc (itO nb ln.length [])).heap.size = wr.heap.size + 1 := World.size_alloc _ _
            have hO9 := hO7.out.below (by omega) hb9
            have hS9 := hS7.out.below hb9
            have hx9 := hx8.out.below hb9
            have hm9 := (hb9.block nb hnbl).trans hm7.out
            have hJ9 : J (fun i => O2 i ∨ i = it) (pre ++ now.map (fun x => (x, d))) (wr.alloc (itO nb ln.length [])) := hJ.out O2 _ _ wr _ hJ7.out (fun i hi => (hOb7.out i hi).1) (Below.only hb9) (fun i hi => hi.elim .inl fun e => .inr (by omega))
            have hOb9 : Hid (∀ i, O2 i ∨ i = it → W.heap.size ≤ i ∧ i < wr.heap.size + 1) := Lib.hid fun i hi => hi.elim (fun hi => ⟨(hOb7.out i hi).1, by have := (hOb7.out i hi).2; omega⟩) (fun e => by omega)
            clear hlt
            go_wp2
            rw [← hit]
            generalize wr.alloc (itO nb ln.length []) = w9 at *
            replace hi9 := Lib.hid hi9
            replace hO9 := Lib.hid hO9
            replace hS9 := Lib.hid hS9
            replace hx9 := Lib.hid hx9
            replace hm9 := Lib.hid hm9
            replace hJ9 := Lib.hid hJ9
            clear hb9 hrg
            have hit1 : wr.heap.size ≤ it := by omega
            have hit2 : it ≤ wr.heap.size := by omega
            replace hit := Lib.hid hit
            have hll : Hid (ln.length = KN.length) := Lib.hid (by have := congrArg List.length hl2h.out; simpa [natI] using this)
            go_loopw [12] (fun _ wx => ∃ sn KX : List Nat, Hid (sn.Nodup ∧ ∀ j ∈ sn, j < ln.length) ∧ Hid (wx.heap[it]? = some (itO nb ln.length sn)) ∧ Hid (OneAt wx nx KX) ∧ Hid (NxI (blksN cs) S (keysAt KN sn) [] 0 KX) ∧ Hid (Only (fun k => k = it ∨ k = nx) w9 wx)) (fun _ wx => ln.length - seenAt wx it)
            case atStart => exact ⟨[], [], Lib.hid ⟨List.nodup_nil, fun j h => by cases h⟩, hi9, hx9, Lib.hid (NxI.start _ _ _), Lib.hid (Only.refl _ _)⟩
            case round =>
              obtain ⟨sn, KX, hsn, hi, hX, hNx, hon⟩ := hrel
              have hle9 := hon.out.size
              have hmr : wr.heap[nb]? = some (mapI .i64 ln) := (hon.out.same nb (by omega) (by omega)).trans hm9.out
              rcases next_mapI (P := Tryd.prog) 0 hi.out hmr with ⟨hall, hrun⟩ | ⟨j, hj, hns, W2, hrun, hon2, hi2⟩
              · have hrun' : ∀ ty, (Instr.next (.pointer (some ⟨it, 0, none⟩)) false ty).run Tryd.prog wr = _ := fun ty => hrun
                clear hrun
                replace hall := Lib.hid hall
                replace hmr := Lib.hid hmr
                go_wp2
                have hp1 : (keysAt KN sn).Perm now := (keysAt_all (by rw [← hll.out]; exact perm_seen hsn.out.1 hsn.out.2 hall.out)).trans ((List.perm_ext_iff_of_nodup hKN.out.1 (by rw [← hKN.out.2]; exact (setL_sl _).nodup)).2 fun x => by rw [← hKN.out.2, mem_setL])
                have hly := hNx.out.layer hp1
                have hLlt : ∀ x ∈ layerN (blksN cs) S now, x < cs.length := layer_lt fun _ _ h => nextOf_lt h
                have hdp := hwi.out.deep
                have hSl := sl_len hwi.out.sl hwi.out.lt
                have hcl := h.len
                refine ⟨⟨nx, d + 1, fu - 1, insAll S (layerN (blksN cs) S now), layerN (blksN cs) S now, addAll KS now, KX, pre ++ now.map (fun x => (x, d)), (fun i => O2 i ∨ i = it), rfl, rfl, by omega, by omega,
                  Lib.hid (fun hne => hwi.out.next h9.out hLlt hne), Lib.hid (fun h0 => hwi.out.last h9.out h0), Lib.hid (hS9.out.only hon.out (by omega)), hX, Lib.hid ⟨hNx.out.1, hly⟩, Lib.hid (fun x => by rw [mem_insAll, hKS.out, mem_addAll]),
                  Lib.hid (hO9.out.only (by omega) hon.out (by rintro k (rfl | rfl) <;> omega)), Lib.hid (hJ.out _ _ _ w9 wr hJ9.out (fun i hi => (hOb9.out i hi).1) (hon.out.mono (by rintro k _ (rfl | rfl); exact .inr rfl; exact .inl hOO7.out.2.2.1)) (fun i hi => .inl hi)),
                  Lib.hid (fun i hi => ⟨(hOb9.out i hi).1, by have := (hOb9.out i hi).2; omega⟩), Lib.hid ⟨.inl hOO7.out.1, .inl hOO7.out.2.2.1⟩, by omega⟩, ?_⟩
                simp [intOf]; omega
              · have hrun' : ∀ ty, (Instr.next (.pointer (some ⟨it, 0, none⟩)) false ty).run Tryd.prog wr = _ := fun ty => hrun
                have hen := entry_mapI (P := Tryd.prog) hj hi2 ((hon2.same nb (by omega) (by omega)).trans hmr)
                have hjk : j < KN.length := by have := hll.out; omega
                have hkey : ln[j].1 = (KN[j] : Int) := by
                  have e := congrArg (fun L => L[j]?) hl2h.out
                  simpa [natI, hj, hjk] using e
                have hks := Lib.hid (keysAt_snoc KN sn j hjk)
                rw [hkey] at hrun' hen
                generalize ln[j].2 = val at *
                generalize KN[j] = ky at *
                have hlt2 := hon2.size
                have hon3 : Only (fun k => k = it ∨ k = nx) w9 W2 := hon.out.trans (hon2.mono fun _ _ e => .inl e)
                have hO3 := hO9.out.only (by omega) hon3 (by rintro k (rfl | rfl) <;> omega)
                have hbx : W2.cell? ⟨mbx, 0, none⟩ = some (.map (some mb)) := hO3.cell h.lbx h.box
                obtain ⟨lm, p2, q2, F, La, X, hm2, hf2, hI2, hlo2⟩ := (hO3.map h.map h.lmb).nextAt ky
                have hLl : (nextOf (blksN cs) ky).length ≤ 200 := Nat.le_trans (nextOf_len ky) h.len
                obtain ⟨L, hL⟩ : ∃ L, L = nextOf (blksN cs) ky := ⟨_, rfl⟩
                rw [← hL] at hf2 hI2 hLl
                have hsn3 : Hid ((sn ++ [j]).Nodup ∧ ∀ i ∈ sn ++ [j], i < ln.length) := Lib.hid ⟨by rw [List.nodup_append]; exact ⟨hsn.out.1, by simp, fun a ha b hb e => hns (by simp at hb; subst hb; rw [← e]; exact ha)⟩, fun i hi => by
                  rcases List.mem_append.1 hi with h | h
                  · exact hsn.out.2 i h
                  · simp at h; omega⟩
                have hslt := seen_lt hsn.out.1 hsn.out.2 hj hns
                have hsl : seenAt wr it = sn.length := seenAt_eq hi.out
                have hX2 := hX.out.only hon2 (by omega)
                have hS2 := Lib.hid (hS9.out.only hon3 (by omega))
                have hfld : ∀ w, (Instr.field 29 (.agg #[.int .i64 F, .int .i64 La, .slice p2 L.length q2, .bool X]) 2).run Tryd.prog w = .ok (.slice p2 L.length q2) w := fun _ => by kernel_rfl
                have hz0 : ∀ w, (zeroValue 3).run Tryd.prog w = .ok (.int .i64 0) w := fun _ => by kernel_rfl
                obtain ⟨lx, hx1, -, -⟩ := hX2
                have hX2 := hX.out.only hon2 (by omega)
                have hnx2 : nx < W2.heap.size := hX2.lt
                replace hX2 := Lib.hid hX2
                replace hx1 := Lib.hid hx1
                replace hL := Lib.hid hL
                replace hlo2 := Lib.hid hlo2
                replace hI2 := Lib.hid hI2
                replace hm2 := Lib.hid hm2
                replace hf2 := Lib.hid hf2
                replace hO3 := Lib.hid hO3
                replace hon3 := Lib.hid hon3
                replace hi2 := Lib.hid hi2
                replace hns := Lib.hid hns
                replace hsl := Lib.hid hsl
                replace hmr := Lib.hid hmr
                clear hrun hkey hon2
                go_wp2_with (refine wpList_lookI rfl 76 3 29 .i64 _ _ false rfl (by kernel_rfl) (by kernel_rfl) hz ky mb lm rfl rfl hm2.out ?_; rw [if_neg (by decide), hf2.out])
                go_loopw [58] (fun iv wx => ∃ (i : Nat) (K4 : List Nat), iv = .int .i64 i ∧ i ≤ L.length ∧ Hid (OneAt wx nx K4) ∧ Hid (NxI (blksN cs) S (keysAt KN sn) L i K4) ∧ Hid (Only (· = nx) W2 wx)) (fun iv _ => L.length - (intOf iv).toNat)
                case atStart => exact ⟨0, KX, rfl, by omega, hX2, Lib.hid (hNx.out.turn L), Lib.hid (Only.refl _ _)⟩
                case round =>
                  obtain ⟨i, K4, rfl, hiL, hX4, hN4, hon4⟩ := hrel
                  have hle4 := hon4.out.size
                  by_cases hlt : i < L.length
                  · have hltI : (i : Int) < L.length := by omega
                    obtain ⟨b2, o2, rfl, hcy2⟩ := (hI2.out.map_off hx1.out hon4.out).get hlt
                    obtain ⟨l8, h81, h82, h83⟩ := hS2.out.only hon4.out (by omega)
                    obtain ⟨l9, h91, h92, h93⟩ := hX4.out
                    have hfd := find_one h82 h83 L[i]
                    replace h81 := Lib.hid h81
                    replace h82 := Lib.hid h82
                    replace h83 := Lib.hid h83
                    replace h91 := Lib.hid h91
                    replace h92 := Lib.hid h92
                    replace h93 := Lib.hid h93
                    by_cases hmem : L[i] ∈ addAll KS now
                    · have hN5 := Lib.hid (hN4.out.skip hlt ((hKS.out _).2 ((mem_addAll _ _ _).1 hmem)))
                      rw [if_pos hmem] at hfd
                      replace hfd := Lib.hid hfd
                      clear hmem
                      generalize L[i] = to at *
                      go_wp2_with (refine wpList_lookI rfl 26 3 3 .i64 _ _ false rfl (by kernel_rfl) (by kernel_rfl) hz0 to W.heap.size l8 rfl rfl h81.out ?_; rw [if_neg (by decide), hfd.out, Option.getD_some])
                      exact ⟨⟨i + 1, K4, rfl, by omega, hX4, hN5, hon4⟩, by simp [intOf]; omega⟩
                    · have hN5 := Lib.hid (hN4.out.add hlt (fun hh => hmem ((mem_addAll _ _ _).2 ((hKS.out _).1 hh))))
                      rw [if_neg hmem] at hfd
                      replace hfd := Lib.hid hfd
                      clear hmem
                      generalize L[i] = to at *
                      go_wp2_with (first
                        | (refine wpList_lookI rfl 26 3 3 .i64 _ _ false rfl (by kernel_rfl) (by kernel_rfl) hz0 to W.heap.size l8 rfl rfl h81.out ?_; rw [if_neg (by decide), hfd.out, Option.getD_none])
                        | (refine wpList_putI rfl _ 3 3 .i64 _ _ _ rfl (by kernel_rfl) (by kernel_rfl) nx (to : Int) (.int .i64 1) l9 rfl rfl rfl h91.out ?_; intro w8 hm8 ho8; have hn8 := Lib.hid (OneAt.upd (W := w8) (bm := nx) h92.out h93.out to hm8); replace ho8 := Lib.hid ho8; clear hm8))
                      exact ⟨⟨i + 1, addK K4 to, rfl, by omega, hn8, hN5, Lib.hid (hon4.out.trans ho8.out)⟩, by simp [intOf]; omega⟩
                  · obtain rfl : i = L.length := by omega
                    clear hlt
                    go_wp2
                    have hi4 := (hon4.out.same it (Array.getElem?_eq_some_iff.1 hi2.out).1 (by omega)).trans hi2.out
                    have hN6 : NxI (blksN cs) S (keysAt KN (sn ++ [j])) [] 0 K4 := by
                      rw [hks.out]
                      have := hN4.out
                      rw [hL.out] at this
                      exact this.done []
                    refine ⟨⟨sn ++ [j], K4, hsn3, Lib.hid hi4, hX4, Lib.hid hN6, Lib.hid (hon3.out.trans (hon4.out.mono fun _ _ e => .inr e))⟩, ?_⟩
                    rw [hsl.out, seenAt_eq hi4, List.length_append, List.length_singleton]; omega
end Go.Proofs.YtijkdabmegbcjaaDoor
