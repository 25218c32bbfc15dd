/- Texts of this claim, merged; no condition. -/
import Derived.Deep.CutRange
import Derived.Test.YtijkdabmegbcjaaGreatDoorT41
import Derived.Test.YtijkdabmegbcjaaGreatDoorT39
import Derived.Test.YtijkdabmegbcjaaGreatDoorT34
import Derived.Test.YtijkdabmegbcjaaGreatDoorT05
import Derived.Test.YtijkdabmegbcjaaGreatDoorTA
set_option linter.all false
namespace Go.Proofs.YtijkdabmegbcjaaGreatDoor
open Go.RowKit Go.Shelf
def setT (lo : Nat) (K : List Nat) : Told := ⟨fun v => ∃ b, v = .map (some b) ∧ lo ≤ b, fun v W => ∀ b, v = .map (some b) → SetAt W b K, ⟨_, lo, rfl, Nat.le_refl _⟩, fun v W W' h hb b e => (h b e).below hb⟩
theorem range_off {w w' : World} {b o mb : Nat} {cs : List Value} {q : IntKind} {l : List (Int × Value)} (h : w.rangeAt b o cs) (hc : cs ≠ []) (hm : w.heap[mb]? = some (mapI q l)) (ho : Only (· = mb) w w') : w'.rangeAt b o cs := fun j v hj =>
  ho.cell (h j v hj) fun e => by
    have e2 : b = mb := e
    subst e2
    exact map_not_cell hm (h j v hj)
theorem behAt_nil {lo : Nat} {w : World} {b : Nat} (h : w.heap[b]? = some (.map #[] 0)) : BehAt lo w b fun _ => none := ⟨[], 0, h, List.nodup_nil, by simp, fun k => ⟨fun _ => rfl, fun K h => by cases h⟩⟩
theorem BehAt.iter {lo : Nat} {w w' : World} {b it b2 clk : Nat} {S : List Nat} {F : Nat → Option (List Nat)} (h : BehAt lo w b F) (hi : w.heap[it]? = some (itQ b2 clk S)) (ho : Only (· = it) w w') : BehAt lo w' b F := by
  obtain ⟨E, c, h1, h2, hp, h3⟩ := h
  have hne : ∀ x E' c', w.heap[x]? = some (mapQ .i64 E' c') → ¬ x = it := by
    rintro x E' c' hx rfl
    rw [hi] at hx
    unfold itQ mapQ at hx
    cases hx
  refine ⟨E, c, (ho.same b (Array.getElem?_eq_some_iff.1 h1).1 (hne b E c h1)).trans h1, h2, hp, fun k => ⟨(h3 k).1, fun K hK => ?_⟩⟩
  obtain ⟨c', e1, e2, hlo, e3⟩ := (h3 k).2 K hK
  obtain ⟨E', clk', g1, g2⟩ := id e3
  exact ⟨c', e1, e2, hlo, e3.only ho (hne c' E' clk' g1)⟩
theorem mapQ_not_cell {w : World} {b : Nat} {q : IntKind} {E : List (Int × Value × Nat)} {clk : Nat} (h : w.heap[b]? = some (mapQ q E clk)) {o : Nat} {v : Value} (hc : w.cell? ⟨b, o, none⟩ = some v) : False := by
  unfold World.cell? at hc
  unfold mapQ at h
  simp [h] at hc
theorem itQ_not_cell {w : World} {b it clk : Nat} {S : List Nat} (h : w.heap[it]? = some (itQ b clk S)) {o : Nat} {v : Value} (hc : w.cell? ⟨it, o, none⟩ = some v) : False := by
  unfold World.cell? at hc
  unfold itQ at h
  simp [h] at hc
theorem BehAt.not_cell {lo : Nat} {w : World} {b : Nat} {F : Nat → Option (List Nat)} (h : BehAt lo w b F) {o : Nat} {v : Value} (hc : w.cell? ⟨b, o, none⟩ = some v) : False := by
  obtain ⟨E, c, g1, -⟩ := h
  exact mapQ_not_cell g1 hc
theorem MapB.off {O : Nat → Prop} {w w' : World} {lo mb : Nat} {bs : List BlkN} (h : MapB lo w mb bs) (ho : Only O w w') (hne : ¬ O mb) (hO : ∀ b o v, w.cell? ⟨b, o, none⟩ = some v → ¬ O b) : MapB lo w' mb bs := by
  obtain ⟨l, h1, h2, h3⟩ := h
  refine ⟨l, (ho.same mb (Array.getElem?_eq_some_iff.1 h1).1 hne).trans h1, h2, fun j hj => ?_⟩
  obtain ⟨p, q, e, hI, hx⟩ := h3 j hj
  exact ⟨p, q, e, hI.only0 ho fun h0 x hx e => by
    obtain ⟨b, o, e', hc⟩ := hI.get (i := 0) (List.length_pos_iff.2 h0)
    rw [e'] at hx; cases hx
    exact hO b _ _ hc e, hx⟩
def InvS (bs : List BlkN) (K : List Nat) (lo hb : Nat) (n : Nat) (v : Value) (w : World) : Prop := ∃ (ch : Bool) (F : Nat → Option (List Nat)), v = .bool ch ∧ BehAt lo w hb F ∧ Shr bs K F ∧ n = sizF K F + (if ch then 1 else 0) ∧ (ch = false → ∀ B ∈ bs, ∀ L, F B.first = some L → ∀ x ∈ L, opP F K B x)
theorem only_new {O : Nat → Prop} {w w1 w2 : World} {it : Nat} (h1 : Only O w w1) (h2 : Only (fun k => k = it ∨ O k) w1 w2) (hit : w.heap.size ≤ it) : Only O w w2 :=
  ⟨h2.os.trans h1.os, h2.tape.trans h1.tape, h2.output.trans h1.output, Nat.le_trans h1.size h2.size, fun k hk hO => (h2.same k (Nat.lt_of_lt_of_le hk h1.size) (by rintro (e | e); omega; exact hO e)).trans (h1.same k hk hO)⟩
theorem wpGrowV_load_blkG {P : Program} {ops : Array Oper} {w : World} {L : Nat → Told} {K : List Value → Act → Prop} {o : Oper} {rest : List Oper} {s : List Value} {a : Act} (hgd : o.guard = none) (ty : TypeId) (x : Operand) (ho : o.op = .load ty x)
    (b : Nat) (hx : a.eval x = .pointer (some ⟨b, 0, none⟩)) (T : TypeId) (vs : List Value) (fs) (hB : BlkG w b T vs) (hu : P.underlying ty = some (.struct fs)) (hi : (P.info? ty).map (·.size) = some vs.length)
    (hL : L s.length = fixd (.agg vs.toArray)) (h : wpGrowV P ops w L K rest (s ++ [.agg vs.toArray]) (a.put o.dst (.agg vs.toArray))) : wpGrowV P ops w L K (o :: rest) s a := by
  refine wpGrowV_fix _ hL (by simp [Region.wanted, hgd]) (fun W hb _ => ?_) h
  have hW := hB.below hb
  have hr : (execOp a.eval o).run P W = .ok (.value (.agg vs.toArray)) W := by
    unfold execOp
    have hc : W.rangeAt b 0 vs := fun j v hj => by
      rw [Nat.zero_add]
      obtain ⟨hlt, rfl⟩ := List.getElem?_eq_some_iff.1 hj
      exact hW.cell j hlt
    simp only [ho, hx, Instr.loadAt, Instr.sureAddr, Sem.run_bind, Sem.run_pure, Result.andThen_ok, run_loadVar_mid W b 0 ty _ _ hc hu rfl (by simpa using hi)]
  rw [hr]
  exact ⟨rfl, xrefl W⟩
set_option maxRecDepth 100000 in
set_option maxHeartbeats 8000000 in
theorem ofGraph_any (cs : List Nat) (a : Option Addr) (c : Nat) (w : World) (h : CodeAt w a c cs) (hl : cs.length ≤ 100) :
    Calls Tryz.prog 56 #[.slice a cs.length c] w fun e w' => (∃ gb, e = .returned (.pointer (some ⟨gb, 0, none⟩)) ∧ GraphAt w.heap.size w' gb (blksN cs)) ∧ Below w.heap.size w w' := by
  have g := graph_code cs
  have hbl := blksN_len cs
  have hmm1 : ∀ w, (Instr.makeMap 96 none).run Tryz.prog w = .ok (.map (some w.heap.size)) (w.alloc (.map #[] 0)) := fun _ => rfl
  have hmm2 : ∀ w, (Instr.makeMap 97 none).run Tryz.prog w = .ok (.map (some w.heap.size)) (w.alloc (.map #[] 0)) := fun _ => rfl
  have hb0 : Below w.heap.size w (((w.alloc (.map #[] 0)).alloc (.map #[] 0)).alloc (.cells #[.map (some w.heap.size), .map (some (w.heap.size + 1))] 99)) := xalloc (xalloc (xalloc (xrefl _) _) _) _
  have hm0 : (((w.alloc (.map #[] 0)).alloc (.map #[] 0)).alloc (.cells #[.map (some w.heap.size), .map (some (w.heap.size + 1))] 99)).heap[w.heap.size]? = some (.map #[] 0) := ((xalloc (xalloc (xrefl (w.alloc (.map #[] 0))) _) _).block w.heap.size (by simp)).trans (World.alloc_heap_new w _)
  have hh0 : (((w.alloc (.map #[] 0)).alloc (.map #[] 0)).alloc (.cells #[.map (some w.heap.size), .map (some (w.heap.size + 1))] 99)).heap[w.heap.size + 1]? = some (.map #[] 0) := by
    have := World.alloc_heap_new (w.alloc (.map #[] 0)) (.map #[] 0)
    rw [World.size_alloc] at this
    exact ((xalloc (xrefl ((w.alloc (.map #[] 0)).alloc (.map #[] 0))) _).block (w.heap.size + 1) (by simp)).trans this
  have hg0 : BlkG (((w.alloc (.map #[] 0)).alloc (.map #[] 0)).alloc (.cells #[.map (some w.heap.size), .map (some (w.heap.size + 1))] 99)) (w.heap.size + 1 + 1) 99 [.map (some w.heap.size), .map (some (w.heap.size + 1))] := by
    have := BlkG.new ((w.alloc (.map #[] 0)).alloc (.map #[] 0)) 99 [.map (some w.heap.size), .map (some (w.heap.size + 1))]
    rwa [World.size_alloc, World.size_alloc] at this
  have hs0 : (((w.alloc (.map #[] 0)).alloc (.map #[] 0)).alloc (.cells #[.map (some w.heap.size), .map (some (w.heap.size + 1))] 99)).heap.size = w.heap.size + 3 := by simp
  have hbk := qh (blocks_own cs a c _ (h.below hb0))
  clear h
  have hD : cs.length ≤ 100 := hl
  clear hl
  generalize blksN cs = bs at *
  generalize cs.length = D at *
  replace hb0 := qh hb0
  replace hm0 := qh hm0
  replace hh0 := qh hh0
  replace hg0 := qh hg0
  replace hs0 := qh hs0
  go_enter Tryz.func56, Tryz.ntmps56
  go_wp2_with (go_at_call 14; refine hbk.out.mono ?_; rintro e w3 ⟨⟨v, rfl, hK⟩, hb3⟩; obtain ⟨a1, c1, rfl, -, hrows⟩ := hK.rows; have hm3 := (hb3.block w.heap.size (by rw [hs0.out]; omega)).trans hm0.out; have hh3 := (hb3.block (w.heap.size + 1) (by rw [hs0.out]; omega)).trans hh0.out; have hg3 := hg0.out.below hb3; have hs3 : w.heap.size + 3 ≤ w3.heap.size := (by have := hb3.size; rw [hs0.out] at this; exact this); replace hb3 := qh (xtrans hb0.out hb3); replace hm3 := qh hm3; replace hh3 := qh hh3; replace hg3 := qh hg3; replace hrows := qh hrows; clear hK hbk)
  have hu := Tryz.underlying51
  clear hmm1 hmm2
  have hd : Hid (∀ i j (hi : i < j) (hj : j < bs.length), (bs[i]'(by omega)).first ≠ bs[j].first) := qh fun i j hi hj e => by
    have h1 := List.pairwise_iff_getElem.1 g.nodup i j (by simp [keysB]; omega) (by simpa [keysB] using hj) hi
    simp only [keysB, List.getElem_map] at h1
    exact h1 e
  have hM0 : Hid (MapB w.heap.size w3 w.heap.size (bs.take 0)) := qh ⟨[], by have := hm3.out; simpa [mapI, entI] using this, rfl, fun j hj => absurd hj (by simp)⟩
  have hs0' := hb0.out.size
  clear hb0 hm0 hh0 hg0 hs0
  go_loopw [18] (fun iv wx => ∃ i : Nat, i ≤ bs.length ∧ iv = .int .i64 i ∧ Hid (MapB w.heap.size wx w.heap.size (bs.take i)) ∧ Hid (Only (· = w.heap.size) w3 wx)) (fun iv _ => bs.length - (intOf iv).toNat)
  case atStart => exact ⟨0, by omega, rfl, hM0, qh (Only.refl _ _)⟩
  case round =>
    clear hM0
    obtain ⟨i, hi, rfl, hM, hon⟩ := hrel
    by_cases hlt : i < bs.length
    · have hltI : (i : Int) < bs.length := by omega
      obtain ⟨b, o, p, q, rfl, hr, hI, hlo⟩ := hrows.out i hlt
      have hlo2 : Hid (bs[i].next ≠ [] → ∀ x, p = some x → w.heap.size ≤ x.block) := qh fun h x hx => by have := hlo h x hx; have := hs0'; omega
      clear hlo
      have hm3' : w3.heap[w.heap.size]? = some (mapI .i64 []) := by have := hm3.out; simpa [mapI, entI] using this
      replace hr := range_off hr (by unfold blkC; simp) hm3' hon.out
      replace hI := hI.map_off hm3' hon.out
      have htk : Hid (bs.take (i + 1) = bs.take i ++ [bs[i]]) := qh (by rw [List.take_add_one, List.getElem?_eq_getElem hlt]; rfl)
      have hli : (bs.take i).length = i := by rw [List.length_take]; omega
      have hnew : Hid (∀ j (h : j < (bs.take i).length), (((bs.take i)[j]).first : Int) ≠ (bs[i].first : Int)) := qh fun j hj e => hd.out j i (by omega) hlt (by rw [List.getElem_take] at e; omega)
      have cg0 : wr.cell? ⟨w.heap.size + 1 + 1, 0, none⟩ = some (.map (some w.heap.size)) := hon.out.cell (hg3.out.cell 0 (by simp)) (by show ¬ w.heap.size + 1 + 1 = w.heap.size; omega)
      replace hr : wr.rangeAt b (o + i * 4) [.int .i64 bs[i].first, .int .i64 bs[i].last, .slice p bs[i].next.length q, .bool bs[i].exit] := hr
      generalize bs.take i = T at *
      generalize bs[i] = B at *
      have hwi : IntKind.i64.wrap ((i : Int) + 1) = (i : Int) + 1 := by simp [IntKind.wrap, IntKind.bits, IntKind.signed]; omega
      replace hr := qh hr
      replace hI := qh hI
      obtain ⟨l, hm1, hm2, hmj⟩ := hM.out
      have hml : w.heap.size < wr.heap.size := (Array.getElem?_eq_some_iff.1 hm1).1
      replace hm1 := qh hm1
      replace hmj := qh hmj
      clear hm3'
      go_wp2_with (first
        | (refine wpList_load_mid rfl 51 _ rfl b (o + i * 4) rfl [.int .i64 B.first, .int .i64 B.last, .slice p B.next.length q, .bool B.exit] _ hr.out hu rfl (by kernel_rfl) ?_)
        | (refine wpList_store_blkG rfl 51 _ _ rfl wr.heap.size rfl 51 [.int .i64 0, .int .i64 0, .slice none 0 0, .bool false] [.int .i64 B.first, .int .i64 B.last, .slice p B.next.length q, .bool B.exit] (BlkG.new wr _ _) rfl rfl (by kernel_rfl) rfl ?_; intro w4 hX4 ho4; have hb4 := qh (ho4.below (xalloc (xrefl wr) _) (by rw [World.size_alloc]; omega) (by rintro k rfl; omega)); have hc4 : w4.cell? ⟨wr.heap.size, 0, none⟩ = some (.int .i64 B.first) := (by simpa using hX4.range 0 _ rfl); have hm4 := qh ((hb4.out.block w.heap.size hml).trans hm1.out); replace cg0 := cbel hb4.out cg0; replace hX4 := qh hX4; clear ho4))
      refine' wp_region_growL 7 [fixd _, fixd _, fixd _, fixd _, fixd _, fixd _, fixd _] (by kernel_rfl) (by kernel_rfl) ?_
      rotate_left 7
      simp only [List.take_succ_cons, List.take_zero, List.drop_succ_cons, List.drop_zero]
      try simp only [Act.put, zA, zB, zC, zD, zE]
      refine' wpGrowV_fix _ rfl rfl (fun W hb _ => by go_simp; first | exact xrefl W | exact ⟨rfl, xrefl W⟩) ?_
      try simp only [Act.put, zA, zB, zC, zD, zE]
      refine' wpGrowV_fix _ rfl rfl (fun W hb _ => by go_simp; first | exact xrefl W | exact ⟨rfl, xrefl W⟩) ?_
      try simp only [Act.put, zA, zB, zC, zD, zE]
      refine' wpGrowV_fix _ rfl rfl (fun W hb _ => by go_simp; first | exact xrefl W | exact ⟨rfl, xrefl W⟩) ?_
      try simp only [Act.put, zA, zB, zC, zD, zE]
      refine' wpGrowV_fix _ rfl rfl (fun W hb _ => by have c := cbel hb cg0; go_simp; first | exact xrefl W | exact ⟨rfl, xrefl W⟩) ?_
      try simp only [Act.put, zA, zB, zC, zD, zE]
      refine' wpGrowV_fix _ rfl rfl (fun W hb _ => by go_simp; first | exact xrefl W | exact ⟨rfl, xrefl W⟩) ?_
      try simp only [Act.put, zA, zB, zC, zD, zE]
      refine' wpGrowV_fix _ rfl rfl (fun W hb _ => by have c := cbel hb hc4; go_simp; first | exact xrefl W | exact ⟨rfl, xrefl W⟩) ?_
      try simp only [Act.put, zA, zB, zC, zD, zE]
      refine' wpGrowV_load_blkG rfl 51 _ rfl wr.heap.size rfl 51 [.int .i64 B.first, .int .i64 B.last, .slice p B.next.length q, .bool B.exit] _ hX4.out hu (by kernel_rfl) rfl ?_
      try simp only [Act.put, zA, zB, zC, zD, zE]
      intro w5 hb5 _
      have hm5 := (hb5.block w.heap.size (by have := hb4.out.size; omega)).trans hm4.out
      go_wp2_with (refine wpList_putI rfl _ 3 51 .i64 _ _ _ rfl (by kernel_rfl) (by kernel_rfl) w.heap.size B.first (.agg #[.int .i64 B.first, .int .i64 B.last, .slice p B.next.length q, .bool B.exit]) l rfl rfl rfl hm5 ?_; intro w6 hm6 ho6; replace hm6 := qh hm6; replace ho6 := qh ho6)
      have hb5' := qh (xtrans hb4.out hb5)
      refine ⟨⟨i + 1, by omega, by go_num, ?_, qh (hon.out.trans ((Below.only hb5'.out).trans ho6.out))⟩, by simp [intOf]; omega⟩
      rw [htk.out]
      have hne : ∀ x ∈ l, x.1 ≠ (B.first : Int) := fun x hx e => by
        obtain ⟨j, hj, rfl⟩ := List.getElem_of_mem hx
        obtain ⟨p', q', e', -⟩ := hmj.out j (by omega)
        rw [List.getElem?_eq_getElem hj] at e'
        exact hnew.out j (by omega) (by rw [Option.some.inj e'] at e; exact e)
      have hm7 := hm6.out
      rw [updI_new hne] at hm7
      refine qh ⟨_, hm7, by simp [hm2], fun j hj => ?_⟩
      by_cases e : j = T.length
      · subst e
        refine ⟨p, q, ?_, ?_, ?_⟩
        · rw [List.getElem?_append_right (by omega)]
          simp [hm2]; rfl
        · simp only [List.getElem_append_right (Nat.le_refl _), Nat.sub_self, List.getElem_cons_zero]
          exact (hI.out.below hb5'.out).map_off hm5 ho6.out
        · simp only [List.getElem_append_right (Nat.le_refl _), Nat.sub_self, List.getElem_cons_zero]
          exact hlo2.out
      · have hj' : j < T.length := by simp at hj; omega
        obtain ⟨p', q', e', hI', hx'⟩ := hmj.out j hj'
        rw [List.getElem_append_left hj']
        exact ⟨p', q', by rw [List.getElem?_append_left (by omega)]; exact e', (hI'.below hb5'.out).map_off hm5 ho6.out, hx'⟩
    · obtain rfl : i = bs.length := by omega
      rw [List.take_length] at hM
      have hmf : ∀ (fn : Fn) (first cap : Array Value) (w : World), (Instr.makeFunc fn first cap).run Tryz.prog w = .ok (.func fn first cap) w := fun _ _ _ _ => rfl
      have hg4 := hg3.out.only hon.out (by omega)
      have hh4 := (hon.out.same (w.heap.size + 1) (by omega) (by omega)).trans hh3.out
      have hbw := hon.out.below hb3.out hb3.out.size (by rintro k rfl; exact Nat.le_refl _)
      have cg0 : wr.cell? ⟨w.heap.size + 1 + 1, 0, none⟩ = some (.map (some w.heap.size)) := hg4.cell 0 (by simp)
      have hend := qh (ending_any bs D g w.heap.size w.heap.size wr hM.out (by omega) (fun B hB => by have := g.len B hB; omega))
      have hH4 := behAt_nil (lo := w.heap.size) hh4
      have hsz4 := hon.out.size
      replace hg4 := qh hg4
      replace hH4 := qh hH4
      replace hbw := qh hbw
      clear hh4 hg3 hm3 hh3 hrows hon hb3 hd hlt hi
      go_wp2_with (go_at_call 88; refine hend.out.mono ?_; rintro e w4 ⟨⟨mo, K, rfl, hS, hiff, hmo⟩, hb4⟩; have hSs := qh hS; obtain ⟨E, clk, hm, hE⟩ := hS; have hrg := range_Q (P := Tryz.prog) (t := 132) Tryz.underlying132 hm; replace hm := qh hm; replace hE := qh hE; replace hiff := qh hiff; replace hb4 := qh hb4)
      have hb9 : Below w4.heap.size w4 (w4.alloc (itQ mo clk [])) := xalloc (xrefl w4) _
      obtain ⟨it, hit⟩ : ∃ it, it = w4.heap.size := ⟨_, rfl⟩
      have hi9 : (w4.alloc (itQ mo clk [])).heap[it]? = some (itQ mo clk []) := by rw [hit]; exact World.alloc_heap_new w4 _
      have hs9 : (w4.alloc (itQ mo clk [])).heap.size = w4.heap.size + 1 := World.size_alloc _ _
      have hmol := hSs.out.lt
      have hm9 := (hb9.block mo hmol).trans hm.out
      have hS9 := hSs.out.below hb9
      have hb49 := xtrans hb4.out hb9
      have hg9 := hg4.out.below hb49
      have hH9 := hH4.out.below hb49
      have hM9 := hM.out.below hb49
      have hw9 := xtrans hbw.out hb49
      have hs4 := hb4.out.size
      rw [← hit]
      generalize w4.alloc (itQ mo clk []) = w9 at *
      have hit1 : w4.heap.size ≤ it := by omega
      have hit2 : it < w9.heap.size := by omega
      have hs9' : wr.heap.size ≤ w9.heap.size := by omega
      replace hit := qh hit
      replace hi9 := qh hi9
      replace hm9 := qh hm9
      replace hS9 := qh hS9
      replace hg9 := qh hg9
      replace hH9 := qh hH9
      replace hM9 := qh hM9
      replace hw9 := qh hw9
      clear hrg hs9 hb49 hb9 hSs hm hg4 hH4 hM hbw hb4 hend cg0 hmf
      go_loopw [8] (fun _ wx => ∃ (S : List Nat) (F : Nat → Option (List Nat)), Hid (S.Nodup ∧ ∀ s ∈ S, ∃ e ∈ E, e.2.2 = s) ∧ Hid (wx.heap[it]? = some (itQ mo clk S)) ∧ Hid (BehAt w.heap.size wx (w.heap.size + 1) F) ∧ Hid ((∀ k, F k = none ∨ F k = some K) ∧ (∀ k, k ∉ K → F k = none) ∧ ∀ e ∈ E, e.2.2 ∈ S → F e.1.toNat = some K) ∧ Hid (Only (fun k => k = it ∨ k = w.heap.size + 1) w9 wx)) (fun _ wx => E.length - seenQ wx it)
      case atStart => exact ⟨[], fun _ => none, qh ⟨List.nodup_nil, by simp⟩, hi9, hH9, qh ⟨fun _ => .inl rfl, fun _ _ => rfl, fun e _ h => by cases h⟩, qh (Only.refl _ _)⟩
      case round =>
        have hi9' := hi9
        clear hi9
        obtain ⟨S, F, hSn, hi, hH, hF, hon⟩ := hrel
        have hsz := hon.out.size
        have hmr : wr.heap[mo]? = some (mapQ .i64 E clk) := (hon.out.same mo (by omega) (by omega)).trans hm9.out
        have hsl : seenQ wr it = S.length := seenQ_eq hi.out
        rcases next_Q (P := Tryz.prog) 0 hi.out hmr (fun e he => hE.out.lt e he) with ⟨hall, hrun⟩ | ⟨e, he, hns, W2, hrun, hon2, hi2⟩
        · have hrun' : ∀ ty, (Instr.next (.pointer (some ⟨it, 0, none⟩)) false ty).run Tryz.prog wr = _ := fun ty => hrun
          have hshr : Hid (Shr bs K F) := qh (shr_start g hiff.out hS9.out.nd (fun k hk => by
            obtain ⟨e, he, h2⟩ := hE.out.mem.1 hk
            have := hF.out.2.2 e he (hall e he)
            rwa [h2, Int.toNat_natCast] at this) hF.out.2.1)
          clear hrun hall hF hSn hsl
          have hwA := hon.out.below hw9.out hw9.out.size (by rintro i (rfl | rfl) <;> omega)
          have hgA := hg9.out.only hon.out (by omega)
          have hMA := hM9.out.off hon.out (by omega) (by rintro b o v hc (rfl | rfl); exact itQ_not_cell hi9'.out hc; exact hH9.out.not_cell hc)
          have hSA := hS9.out.only hon.out (by omega)
          have hmA := hmr
          have hszA : w.heap.size + 3 ≤ wr.heap.size := by omega
          have hmoA : mo < wr.heap.size ∧ w.heap.size + 3 ≤ mo := ⟨by omega, by omega⟩
          replace hwA := qh hwA
          replace hgA := qh hgA
          replace hMA := qh hMA
          replace hSA := qh hSA
          replace hmA := qh hmA
          clear hmr hi hon hi9' hm9 hS9 hg9 hH9 hM9 hw9 hit1 hit2 hs9' hmol hs4 hsz4 hit hmo hsz hs3
          go_wp2
          go_loopw [9] (fun v wx => (∃ n, InvS bs K w.heap.size (w.heap.size + 1) n v wx) ∧ (∃ ch, v = .bool ch) ∧ Hid (Only (· = w.heap.size + 1) wr wx)) (fun v wx => leastN fun n => InvS bs K w.heap.size (w.heap.size + 1) n v wx)
          case atStart => exact ⟨⟨_, true, F, rfl, hH.out, hshr.out, rfl, fun h => by cases h⟩, ⟨true, rfl⟩, qh (Only.refl _ _)⟩
          case round =>
            have hHA := hH
            clear hH hshr
            obtain ⟨hn, ⟨ch, rfl⟩, hon⟩ := hrel
            have h1 := leastN_in hn
            have hwB := hon.out.below hwA.out hwA.out.size (by rintro k rfl; omega)
            have hgB := hgA.out.only hon.out (by omega)
            have hMB := hMA.out.off hon.out (by omega) (by rintro b o v hc rfl; exact hHA.out.not_cell hc)
            cases ch with
            | false =>
              obtain ⟨ch2, F, e, hH, hshr, -, hcl⟩ := h1
              cases e
              clear hn
              have fin : GraphAt w.heap.size wr (w.heap.size + 1 + 1) bs := ⟨⟨w.heap.size, hgB.cell 0 (by simp), Nat.le_refl _, hMB⟩, w.heap.size + 1, F, ⟨hgB.cell 1 (by simp), by omega, by omega, hH, fun k L h => ⟨hshr.nd k L h, hshr.done g hiff.out (hcl rfl) h⟩, fun k => ⟨fun h he => (by
                obtain ⟨L, hL⟩ := hshr.ins k ((hiff.out k).2 he)
                rw [hL] at h; cases h), fun h => hshr.out k fun hk => h ((hiff.out k).1 hk)⟩⟩⟩
              replace fin := qh fin
              replace hwB := qh hwB
              clear hgB hMB hH hshr hcl hHA hgA hMA hSA hmA hon hwA
              go_wp2
              go_ret
              exact ⟨⟨_, rfl, fin.out⟩, hwB.out⟩
            | true =>
              obtain ⟨ch2, F0, e, hH, hshr, hnn, -⟩ := h1
              cases e
              clear hn
              have hmW := (hon.out.same mo hmoA.1 (by omega)).trans hmA.out
              have hSB := hSA.out.only hon.out (by omega)
              have hrg := range_Q (P := Tryz.prog) (t := 132) Tryz.underlying132 hmW
              have hb9 : Below wr.heap.size wr (wr.alloc (itQ mo clk [])) := xalloc (xrefl wr) _
              obtain ⟨it, hit⟩ : ∃ it, it = wr.heap.size := ⟨_, rfl⟩
              have hi9 : (wr.alloc (itQ mo clk [])).heap[it]? = some (itQ mo clk []) := by rw [hit]; exact World.alloc_heap_new wr _
              have hs9 : (wr.alloc (itQ mo clk [])).heap.size = wr.heap.size + 1 := World.size_alloc _ _
              have hm9 := (hb9.block mo hSB.lt).trans hmW
              have hS9 := hSB.below hb9
              have hg9 := hgB.below hb9
              have hH9 := hH.below hb9
              have hM9 := hMB.below hb9
              have hw9 := xtrans hwB hb9
              have hon9 := hon.out.trans (Below.only hb9)
              have hszo := Nat.le_trans hon.out.size (Nat.le_of_eq hit.symm)
              have hsB := hon.out.size
              replace hnn := qh hnn
              replace hshr := qh hshr
              clear hgB hMB hH hHA hgA hMA hSA hmA hon hwA hSB
              go_wp2
              rw [← hit]
              generalize wr.alloc (itQ mo clk []) = w9 at *
              have hit1 : mo < it := by omega
              have hit2 : it < w9.heap.size := by omega
              have hit3 : w.heap.size + 3 ≤ it := by omega
              replace hit := qh hit
              replace hi9 := qh hi9
              replace hm9 := qh hm9
              replace hS9 := qh hS9
              replace hg9 := qh hg9
              replace hH9 := qh hH9
              replace hM9 := qh hM9
              replace hw9 := qh hw9
              replace hon9 := qh hon9
              clear hrg hs9 hb9 hwB hmW hsB
              go_loopw [9] (fun v wx => ∃ (S seen : List Nat) (F : Nat → Option (List Nat)) (ch : Bool), v = .bool ch ∧ Hid (S.Nodup ∧ ∀ s ∈ S, ∃ e ∈ E, e.2.2 = s) ∧ Hid (wx.heap[it]? = some (itQ mo clk S)) ∧ Hid (BehAt w.heap.size wx (w.heap.size + 1) F) ∧ Hid (Rnd bs K F0 F ch seen) ∧ Hid (∀ e ∈ E, e.2.2 ∈ S → e.1.toNat ∈ seen) ∧ Hid (Only (fun k => k = it ∨ k = w.heap.size + 1) w9 wx)) (fun _ wx => E.length - seenQ wx it)
              case atStart => exact ⟨[], [], F0, false, rfl, qh ⟨List.nodup_nil, by simp⟩, hi9, hH9, qh (Rnd.start hshr.out), qh (fun e _ h => by cases h), qh (Only.refl _ _)⟩
              case round =>
                have hi9' := hi9
                clear hi9
                obtain ⟨S, seen, F, ch, rfl, hSn, hi, hH, hR, hse, hon⟩ := hrel
                have hsz := hon.out.size
                have hmr : wr.heap[mo]? = some (mapQ .i64 E clk) := (hon.out.same mo (by omega) (by omega)).trans hm9.out
                have hsl : seenQ wr it = S.length := seenQ_eq hi.out
                rcases next_Q (P := Tryz.prog) 0 hi.out hmr (fun e he => hE.out.lt e he) with ⟨hall, hrun⟩ | ⟨e, he, hns, W2, hrun, hon2, hi2⟩
                · have hrun' : ∀ ty, (Instr.next (.pointer (some ⟨it, 0, none⟩)) false ty).run Tryz.prog wr = _ := fun ty => hrun
                  have hall2 : ∀ k ∈ K, k ∈ seen := fun k hk => by
                    obtain ⟨e, he, h2⟩ := hE.out.mem.1 hk
                    have := hse.out e he (hall e he)
                    rwa [h2, Int.toNat_natCast] at this
                  have hinv : Hid (InvS bs K w.heap.size (w.heap.size + 1) (sizF K F + (if ch then 1 else 0)) (.bool ch) wr) := qh ⟨ch, F, rfl, hH.out, hR.out.shr, rfl, fun h B hB L hL x hx => hR.out.same h B hB (hall2 _ (by
                    by_cases e : B.first ∈ K
                    · exact e
                    · have := hR.out.shr.out _ e; rw [this] at hL; cases hL)) L hL x hx⟩
                  have hms : Hid (sizF K F + (if ch then 1 else 0) < sizF K F0 + 1) := qh (by
                    cases ch with
                    | true => have := hR.out.less rfl; simp; omega
                    | false => have := hR.out.le; simp; omega)
                  have hon' := qh (only_new hon9.out hon.out hszo)
                  clear hrun hall hall2 hi hH hR hse hon hmr
                  go_wp2
                  exact ⟨⟨⟨_, hinv.out⟩, ⟨ch, rfl⟩, hon'⟩, by rw [hnn.out]; exact Nat.lt_of_le_of_lt (leastN_le hinv.out) hms.out⟩
                · have hrun' : ∀ ty, (Instr.next (.pointer (some ⟨it, 0, none⟩)) false ty).run Tryz.prog wr = _ := fun ty => hrun
                  have hon3 : Only (fun k => k = it ∨ k = w.heap.size + 1) w9 W2 := hon.out.trans (hon2.mono fun _ _ e => .inl e)
                  have hm2 := (hon3.same mo (by omega) (by omega)).trans hm9.out
                  have hen := entry_Q (P := Tryz.prog) he hE.out.sn hi2 hm2
                  obtain ⟨k, hkK, hek⟩ := hE.out.nat he
                  have hev := hE.out.val e he
                  have hslt := stamps_lt hSn.out.1 hSn.out.2 he hns
                  have hSn2 : Hid ((S ++ [e.2.2]).Nodup ∧ ∀ s ∈ S ++ [e.2.2], ∃ e ∈ E, e.2.2 = s) := qh ⟨List.nodup_append.2 ⟨hSn.out.1, by simp, fun a ha b hb h => hns (by simp at hb; rw [← hb, ← h]; exact ha)⟩, fun s hs => by
                    rcases List.mem_append.1 hs with h | h
                    · exact hSn.out.2 s h
                    · rw [List.mem_singleton] at h; exact ⟨e, he, h.symm⟩⟩
                  have hse2 : Hid (∀ e' ∈ E, e'.2.2 ∈ S ++ [e.2.2] → e'.1.toNat ∈ seen ++ [k]) := qh fun e' he' hs => by
                    rcases List.mem_append.1 hs with h2 | h2
                    · exact List.mem_append_left _ (hse.out e' he' h2)
                    · rw [List.mem_singleton] at h2
                      have : e' = e := nodup_inj hE.out.sn he' he h2
                      rw [this, hek, Int.toNat_natCast]; simp
                  have hH2 := hH.out.iter hi.out hon2
                  have hw2 := hon3.below hw9.out hw9.out.size (by rintro i (rfl | rfl) <;> omega)
                  have hg2 := hg9.out.only hon3 (by omega)
                  have hM2 := hM9.out.off hon3 (by omega) (by rintro b o v hc (rfl | rfl); exact itQ_not_cell hi9'.out hc; exact hH9.out.not_cell hc)
                  have hS2 := hS9.out.only hon3 (by omega)
                  have hsz2 := hon3.size
                  obtain ⟨B, hB, rfl⟩ := List.mem_map.1 (ends_key g ((hiff.out k).1 hkK))
                  obtain ⟨Ko, hKo⟩ := hR.out.shr.ins B.first hkK
                  have hcall := qh (shrink_any bs D g (w.heap.size + 1 + 1) w.heap.size (w.heap.size + 1) mo w.heap.size F K B Ko W2 (hg2.cell 0 (by simp)) (hg2.cell 1 (by simp)) hM2 (by omega) hH2 hS2 hB hKo hR.out.shr.ins (by have := g.len B hB; omega) (lot_ne g hiff.out hB hkK))
                  have hR2 : Hid (∀ N : List Nat, N.Nodup → (∀ x, x ∈ N ↔ opP F K B x) → Rnd bs K F0 (setF F B.first N) (decide (N.length ≠ Ko.length) || ch) (seen ++ [B.first])) := qh fun N h1 h2 => hR.out.step g hiff.out hS9.out.nd hB hkK hKo h1 h2
                  rw [hek, hev] at hrun' hen
                  have hi2' := qh hi2
                  have hit5 : it < W2.heap.size := by omega
                  generalize e.2.2 = st at *
                  replace hsl := qh hsl
                  replace hon3 := qh hon3
                  clear hi2 hmr hrun hon2 hns he hev hek hw2 hH hi hon hH2 hg2 hM2 hS2 hKo hR hm2 hB
                  go_wp2_with (go_at_call 90; refine hcall.out.mono ?_; rintro e W5 ⟨⟨N, rfl, hNn, hNm, hH5⟩, ho5⟩; have hR5 := hR2.out N hNn hNm; cases hq : decide (N.length ≠ Ko.length) <;> rw [hq] at hR5)
                  all_goals
                    have hi6 := (ho5.same it hit5 (by omega)).trans hi2'.out
                    refine ⟨⟨S ++ [st], seen ++ [B.first], setF F B.first N, _, rfl, hSn2, qh hi6, qh hH5, qh hR5, hse2, qh (hon3.out.trans (ho5.mono fun _ _ e => .inr e))⟩, ?_⟩
                    rw [hsl.out, seenQ_eq hi6, List.length_append, List.length_singleton]; omega
        · have hrun' : ∀ ty, (Instr.next (.pointer (some ⟨it, 0, none⟩)) false ty).run Tryz.prog wr = _ := fun ty => hrun
          have hon3 : Only (fun k => k = it ∨ k = w.heap.size + 1) w9 W2 := hon.out.trans (hon2.mono fun _ _ e => .inl e)
          have hm2 := (hon3.same mo (by omega) (by omega)).trans hm9.out
          have hen := entry_Q (P := Tryz.prog) he hE.out.sn hi2 hm2
          obtain ⟨k, hkK, hek⟩ := hE.out.nat he
          have hev := hE.out.val e he
          have hslt := stamps_lt hSn.out.1 hSn.out.2 he hns
          have hSn2 : Hid ((S ++ [e.2.2]).Nodup ∧ ∀ s ∈ S ++ [e.2.2], ∃ e ∈ E, e.2.2 = s) := qh ⟨List.nodup_append.2 ⟨hSn.out.1, by simp, fun a ha b hb h => hns (by simp at hb; rw [← hb, ← h]; exact ha)⟩, fun s hs => by
            rcases List.mem_append.1 hs with h | h
            · exact hSn.out.2 s h
            · rw [List.mem_singleton] at h; exact ⟨e, he, h.symm⟩⟩
          have hF2 : Hid ((∀ j, setF F k K j = none ∨ setF F k K j = some K) ∧ (∀ j, j ∉ K → setF F k K j = none) ∧ ∀ e' ∈ E, e'.2.2 ∈ S ++ [e.2.2] → setF F k K e'.1.toNat = some K) := qh ⟨fun j => by
            unfold setF
            by_cases h : j = k
            · exact .inr (if_pos h)
            · rw [if_neg h]; exact hF.out.1 j, fun j hj => by
            unfold setF
            rw [if_neg (fun h => hj (by rw [h]; exact hkK))]; exact hF.out.2.1 j hj, fun e' he' hs => by
            unfold setF
            by_cases h : e'.1.toNat = k
            · exact if_pos h
            · rw [if_neg h]
              rcases List.mem_append.1 hs with h2 | h2
              · exact hF.out.2.2 e' he' h2
              · rw [List.mem_singleton] at h2
                have : e' = e := nodup_inj hE.out.sn he' he h2
                rw [this, hek, Int.toNat_natCast] at h
                exact absurd rfl h⟩
          have hH2 := hH.out.iter hi.out hon2
          have hw2 := hon3.below hw9.out hw9.out.size (by rintro i (rfl | rfl) <;> omega)
          have c1r : W2.cell? ⟨w.heap.size + 1 + 1, 1, none⟩ = some (.map (some (w.heap.size + 1))) := hon3.cell (hg9.out.cell 1 (by simp)) (by show ¬ (w.heap.size + 1 + 1 = it ∨ w.heap.size + 1 + 1 = w.heap.size + 1); omega)
          have hsz2 := hon3.size
          have hmoW : mo < W2.heap.size := by omega
          rw [hek, hev] at hrun' hen
          have hi2' := qh hi2
          replace hm2 := qh hm2
          have hsl2 : Hid (seenQ W2 it = S.length + 1) := qh (by rw [seenQ_eq hi2, List.length_append]; rfl)
          generalize e.2.2 = st at *
          replace hsl := qh hsl
          replace hH2 := qh hH2
          replace hon3 := qh hon3
          have hE2 := hE
          clear hi2 hmr hrun hon2 hns he hev hek hw2 hF hH hi hon
          go_wp2
          refine' wp_region_growL 7 [fixd _, fixd _, fixd _, fixd _, fixd _, fixd _, setT W2.heap.size K] (by kernel_rfl) (by kernel_rfl) ?_
          rotate_left 6
          simp only [List.take_succ_cons, List.take_zero, List.drop_succ_cons, List.drop_zero]
          try simp only [Act.put, zA, zB, zC, zD, zE]
          refine' wpGrowV_fix _ rfl rfl (fun W hb _ => by go_simp; first | exact xrefl W | exact ⟨rfl, xrefl W⟩) ?_
          try simp only [Act.put, zA, zB, zC, zD, zE]
          refine' wpGrowV_fix _ rfl rfl (fun W hb _ => by go_simp; first | exact xrefl W | exact ⟨rfl, xrefl W⟩) ?_
          try simp only [Act.put, zA, zB, zC, zD, zE]
          refine' wpGrowV_fix _ rfl rfl (fun W hb _ => by go_simp; first | exact xrefl W | exact ⟨rfl, xrefl W⟩) ?_
          try simp only [Act.put, zA, zB, zC, zD, zE]
          refine' wpGrowV_fix _ rfl rfl (fun W hb _ => by have c := cbel hb c1r; go_simp; first | exact xrefl W | exact ⟨rfl, xrefl W⟩) ?_
          try simp only [Act.put, zA, zB, zC, zD, zE]
          refine' wpGrowV_fix _ rfl rfl (fun W hb _ => by go_simp; first | exact xrefl W | exact ⟨rfl, xrefl W⟩) ?_
          try simp only [Act.put, zA, zB, zC, zD, zE]
          refine' wpGrowV_fix _ rfl rfl (fun W hb _ => by go_simp; first | exact xrefl W | exact ⟨rfl, xrefl W⟩) ?_
          try simp only [Act.put, zA, zB, zC, zD, zE]
          refine wpGrowV_any (setT W2.heap.size K) rfl rfl (fun W hb hF => ?_) (fun v hv => ?_)
          · have hmW := (hb.block mo hmoW).trans hm2.out
            clear hF
            go_simp
            go_at_call 89
            refine (cloneS_any mo clk E W hmW).mono ?_
            rintro e w' ⟨rfl, rfl⟩
            exact ⟨_, rfl, ⟨⟨_, rfl, by have := hb.size; omega⟩, fun b e => by cases e; exact ⟨E, clk, World.alloc_heap_new W _, hE2.out⟩⟩, xalloc (xrefl W) _⟩
          obtain ⟨bn, rfl, hbn⟩ := hv
          try simp only [Act.put, zA, zB, zC, zD, zE]
          refine wpGrowV_nil fun W5 hb5 hmem => ?_
          have hSb := qh (hmem 6 (by decide) bn rfl)
          clear hmem
          have hH5 := qh (hH2.out.below hb5)
          have hi5 := (hb5.block it (Array.getElem?_eq_some_iff.1 hi2'.out).1).trans hi2'.out
          have hit5 : it < W5.heap.size := (Array.getElem?_eq_some_iff.1 hi5).1
          replace hi5 := qh hi5
          replace hb5 := qh hb5
          clear c1r hm2
          go_wp2_with (refine wpList_putB rfl 97 3 95 _ _ _ rfl Tryz.underlying97 Tryz.underlying3 (w.heap.size + 1) k bn F K rfl rfl rfl hH5.out hSb.out (by omega) (by omega) ?_; intro W6 hH6 ho6; replace hH6 := qh hH6; replace ho6 := qh ho6)
          have hi6 := (ho6.out.same it hit5 (by omega)).trans hi5.out
          go_roundw
          case rel =>
            (repeat apply Exists.intro)
            exact ⟨⟨S ++ [st], setF F k K, hSn2, qh hi6, hH6, hF2, qh ((hon3.out.trans (Below.only hb5.out)).trans (ho6.out.mono fun _ _ e => .inr e))⟩, rfl⟩
          case measure => rw [hsl.out, seenQ_eq hi6, List.length_append, List.length_singleton]; omega
end Go.Proofs.YtijkdabmegbcjaaGreatDoor
