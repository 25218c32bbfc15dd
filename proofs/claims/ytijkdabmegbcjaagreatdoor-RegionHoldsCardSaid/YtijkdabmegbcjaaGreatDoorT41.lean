/- Texts of this claim, merged; no condition. -/
import Derived.Test.YtijkdabmegbcjaaGreatDoorT40
import Derived.Test.YtijkdabmegbcjaaGreatDoorT12
import Derived.Test.YtijkdabmegbcjaaGreatDoorT34
import Derived.Test.YtijkdabmegbcjaaGreatDoorTA
set_option linter.all false
namespace Go.Proofs.YtijkdabmegbcjaaGreatDoor
open Go.RowKit Go.Shelf
structure BehG (lo : Nat) (w : World) (gb : Nat) (bs : List BlkN) (hb : Nat) (F : Nat → Option (List Nat)) : Prop where
  c1 : w.cell? ⟨gb, 1, none⟩ = some (.map (some hb))
  glo : lo ≤ gb
  hlo : lo ≤ hb
  beh : BehAt lo w hb F
  ins : ∀ k K, F k = some K → K.Nodup ∧ ∀ b, b ∈ K ↔ Beh (nextOf bs) (exitOf bs) k b
  out : ∀ k, F k = none ↔ ¬ Ends (nextOf bs) (exitOf bs) k
def MeetAt (lo : Nat) (w : World) (gb : Nat) (bs : List BlkN) : Prop := ∃ hb F, BehG lo w gb bs hb F
structure GraphAt (lo : Nat) (w : World) (gb : Nat) (bs : List BlkN) : Prop where
  map : ∃ mb, w.cell? ⟨gb, 0, none⟩ = some (.map (some mb)) ∧ lo ≤ mb ∧ MapB lo w mb bs
  meet : MeetAt lo w gb bs
section
variable {lo : Nat} {w w' : World} {gb hb : Nat} {bs : List BlkN} {F : Nat → Option (List Nat)}
theorem BehG.len {D : Nat} (g : Graph bs D) (h : BehG lo w gb bs hb F) {k : Nat} {K : List Nat} (hK : F k = some K) : K.length = (behindN bs D k).length := by
  obtain ⟨h1, h2⟩ := h.ins k K hK
  have a := h1.length_le_of_subset (l₂ := behindN bs D k) fun x hx => (mem_behind g).2 ((h2 x).1 hx)
  have b := (behind_sl g k).nodup.length_le_of_subset (l₂ := K) fun x hx => (h2 x).2 ((mem_behind g).1 hx)
  omega
theorem BehG.mem {D : Nat} (g : Graph bs D) (h : BehG lo w gb bs hb F) {k : Nat} {K : List Nat} (hK : F k = some K) (x : Nat) : x ∈ K ↔ x ∈ behindN bs D k := ((h.ins k K hK).2 x).trans (mem_behind g).symm
theorem BehG.no {D : Nat} (g : Graph bs D) (h : BehG lo w gb bs hb F) {k : Nat} (hK : F k = none) : behindN bs D k = [] := by
  have h1 := (h.out k).1 hK
  cases e : behindN bs D k with
  | nil => rfl
  | cons x l => exact absurd ((exits_ends g).1 ((behind_ne g).1 (by rw [e]; simp))) h1
theorem BehG.in (h : BehG lo w gb bs hb F) {k : Nat} {K : List Nat} (hK : F k = some K) {x : Nat} (hx : x ∈ K) : ∃ L, F x = some L := by
  cases e : F x with
  | some L => exact ⟨L, rfl⟩
  | none => exact absurd (((h.ins k K hK).2 x).1 hx).ends ((h.out x).1 e)
end
section
variable {P : Program} {t k e : TypeId} {w : World} {b : Nat} {F : Nat → Option (List Nat)} {o : Oper} {a : Act}
theorem exec_lookBG (t k e : TypeId) (x y : Operand) (ho : o.op = .lookup t x y false) (ht : P.underlying t = some (.map k e)) (hk : P.underlying k = some (.int .i64)) (hz : ∀ w, (zeroValue e).run P w = .ok (.map none) w) (b : Nat) (n : Int) (F : Nat → Option (List Nat)) (hn : n < 0 ∨ F n.toNat = none)
    (hx : a.eval x = .map (some b)) (hy : a.eval y = .int .i64 n) {lo : Nat} (h : BehAt lo w b F) : (execOp a.eval o).run P w = .ok (.value (.map none)) w := by
  by_cases h0 : n < 0
  · exact exec_lookBN t k e x y ho ht hk hz b n h0 F hx hy h
  · obtain ⟨m, rfl⟩ := Int.eq_ofNat_of_zero_le (Int.not_lt.1 h0)
    exact exec_lookB0 t k e x y ho ht hk hz b m F (by rcases hn with h | h; omega; simpa using h) hx hy h
end
set_option maxRecDepth 100000 in
set_option maxHeartbeats 8000000 in
theorem meet_any (bs : List BlkN) (D : Nat) (g : Graph bs D) (gb : Nat) (n : Int) {lo : Nat} (w : World) (h : MeetAt lo w gb bs) (hl : bs.length ≤ 200) :
    Calls Tryz.prog 57 #[.pointer (some ⟨gb, 0, none⟩), .int .i64 n] w fun e w' => e = .returned (atV (meetZ bs D n)) ∧ Below w.heap.size w w' := by
  obtain ⟨bh, F, h⟩ := h
  have c1 := h.c1
  have hzm : ∀ w, (zeroValue 95).run Tryz.prog w = .ok (.map none) w := fun _ => rfl
  have hB := qh h.beh
  have hbl := hB.out.lt
  by_cases hn : n < 0 ∨ F n.toNat = none
  · have hm : meetZ bs D n = none := by
      by_cases h0 : n < 0
      · exact meetZ_neg h0
      · obtain ⟨k, rfl⟩ := Int.eq_ofNat_of_zero_le (Int.not_lt.1 h0)
        rw [meetZ_nat]
        have := h.no g (k := k) (by rcases hn with h | h; omega; simpa using h)
        unfold meetN
        rw [this]; rfl
    rw [hm]
    have hrg := run_range_nilMap (P := Tryz.prog) w 95 3 4 Tryz.underlying95
    have hnx : ∀ ty, (Instr.next (.pointer (some ⟨w.heap.size, 0, none⟩)) false ty).run Tryz.prog (w.alloc (.mapIter none 0 #[] 0)) = _ := fun ty => run_next_nilMap w ty 0 0 #[]
    have hbb : Below w.heap.size w (w.alloc (.mapIter none 0 #[] 0)) := xalloc (xrefl w) _
    replace hbb := qh hbb
    replace hn := qh hn
    clear h hm
    unfold atV
    go_enter Tryz.func57, Tryz.ntmps57
    go_wp2_with (refine wpList_exec rfl (.map none) (exec_lookBG 97 3 95 _ _ rfl Tryz.underlying97 Tryz.underlying3 hzm bh n F hn.out rfl rfl hB.out) ?_)
    refine wp_loop_rounds 1 ?_
    rw [rounds_succ]
    go_wp2
    go_ret2
    exact ⟨rfl, hbb.out⟩
  · obtain ⟨k, rfl⟩ : ∃ k : Nat, n = k := Int.eq_ofNat_of_zero_le (Int.not_lt.1 fun h => hn (.inl h))
    obtain ⟨K, hK⟩ : ∃ K, F k = some K := by
      cases e : F k with
      | some K => exact ⟨K, rfl⟩
      | none => exact absurd (.inr (by simpa using e)) hn
    clear hn
    have hR : Hid (∀ x, meetZ bs D k = some x ↔ x ∈ K ∧ x ≠ k ∧ (behindN bs D x).length + 1 = K.length) := qh fun x => by
      rw [meetZ_nat, meet_iff g, h.mem g hK, h.len g hK]
    have hlen := qh fun x L (hL : F x = some L) => h.len g hL
    have hin := qh fun x (hx : x ∈ K) => h.in hK hx
    have hKl : K.length ≤ 200 := by rw [h.len g hK]; exact Nat.le_trans (behind_len g k) hl
    have hBn := qh fun x => behind_len g x
    generalize meetZ bs D k = R at *
    clear h
    have hzi : ∀ w, (zeroValue 4).run Tryz.prog w = .ok (.bool false) w := fun _ => by kernel_rfl
    obtain ⟨ob, hlk, hob, hS⟩ := hB.out.look (P := Tryz.prog) (t := 97) (k := 3) (e := 95) Tryz.underlying97 Tryz.underlying3 hzm k hK
    have hobl := hS.lt
    have hSo := qh hS
    obtain ⟨E, clk, hE1, hE2⟩ := hS
    have hrg := range_Q (P := Tryz.prog) (t := 95) Tryz.underlying95 hE1
    have hb9 : Below w.heap.size w (w.alloc (itQ ob clk [])) := xalloc (xrefl w) _
    obtain ⟨it, hit⟩ : ∃ it, it = w.heap.size := ⟨_, rfl⟩
    have hi9 : (w.alloc (itQ ob clk [])).heap[it]? = some (itQ ob clk []) := by rw [hit]; exact World.alloc_heap_new w _
    have hs9 : (w.alloc (itQ ob clk [])).heap.size = w.heap.size + 1 := World.size_alloc _ _
    replace hE1 := qh hE1
    replace hE2 := qh hE2
    unfold atV
    go_enter Tryz.func57, Tryz.ntmps57
    go_wp2
    rw [← hit]
    generalize w.alloc (itQ ob clk []) = w9 at *
    have hit1 : w.heap.size ≤ it := by omega
    have hit2 : it < w9.heap.size := by omega
    replace hit := qh hit
    replace hi9 := qh hi9
    replace hb9 := qh hb9
    replace hlk := qh hlk
    clear hrg hs9
    go_loopw [7] (fun _ wx => ∃ S : List Nat, Hid (S.Nodup ∧ ∀ s ∈ S, ∃ e ∈ E, e.2.2 = s) ∧ Hid (wx.heap[it]? = some (itQ ob clk S)) ∧ Hid (∀ e ∈ E, e.2.2 ∈ S → R ≠ some e.1.toNat) ∧ Hid (Only (· = it) w9 wx)) (fun _ wx => E.length - seenQ wx it)
    case atStart => exact ⟨[], qh ⟨List.nodup_nil, by simp⟩, hi9, qh (fun e _ h => by cases h), qh (Only.refl _ _)⟩
    case round =>
      clear hi9
      obtain ⟨S, hSn, hi, hno, hon⟩ := hrel
      have hb := qh (hon.out.below hb9.out hb9.out.size (by rintro i rfl; omega))
      have hm : wr.heap[ob]? = some (mapQ .i64 E clk) := (hb.out.block ob hobl).trans hE1.out
      have c1r : wr.cell? ⟨gb, 1, none⟩ = some (.map (some bh)) := cbel hb.out c1
      have hsl : seenQ wr it = S.length := seenQ_eq hi.out
      rcases next_Q (P := Tryz.prog) 0 hi.out hm (fun e he => hE2.out.lt e he) with ⟨hall, hrun⟩ | ⟨e, he, hns, W2, hrun, hon2, hi2⟩
      · have hrun' : ∀ ty, (Instr.next (.pointer (some ⟨it, 0, none⟩)) false ty).run Tryz.prog wr = _ := fun ty => hrun
        have hRn : R = none := by
          cases hR2 : R with
          | none => rfl
          | some x =>
            obtain ⟨h1, -, -⟩ := (hR.out x).1 hR2
            obtain ⟨e, he, h3⟩ := hE2.out.mem.1 h1
            exact absurd (by rw [hR2, h3]; rfl) (hno.out e he (hall e he))
        subst hRn
        clear hrun hall
        go_wp2
        go_ret2
        exact ⟨rfl, hb.out⟩
      · have hrun' : ∀ ty, (Instr.next (.pointer (some ⟨it, 0, none⟩)) false ty).run Tryz.prog wr = _ := fun ty => hrun
        have hm2 := (hon2.same ob (by have := hb.out.size; omega) (by omega)).trans hm
        have hen := entry_Q (P := Tryz.prog) he hE2.out.sn hi2 hm2
        obtain ⟨x, hxK, hex⟩ := hE2.out.nat he
        have hev := hE2.out.val e he
        have hslt := stamps_lt hSn.out.1 hSn.out.2 he hns
        have hSn2 : Hid ((S ++ [e.2.2]).Nodup ∧ ∀ s ∈ S ++ [e.2.2], ∃ e ∈ E, e.2.2 = s) := qh ⟨List.nodup_append.2 ⟨hSn.out.1, by simp, fun a ha b hb h => hns (by simp at hb; rw [← hb, ← h]; exact ha)⟩, fun s hs => by
          rcases List.mem_append.1 hs with h | h
          · exact hSn.out.2 s h
          · rw [List.mem_singleton] at h; exact ⟨e, he, h.symm⟩⟩
        have hno2 : Hid (R ≠ some x → ∀ e' ∈ E, e'.2.2 ∈ S ++ [e.2.2] → R ≠ some e'.1.toNat) := qh fun hne e' he' hs => by
          rcases List.mem_append.1 hs with h | h
          · exact hno.out e' he' h
          · rw [List.mem_singleton] at h
            have : e' = e := nodup_inj hE2.out.sn he' he h
            rw [this, hex, Int.toNat_natCast]; exact hne
        have hon3 := qh (hon.out.trans hon2)
        have hb2 := qh (hon3.out.below hb9.out hb9.out.size (by rintro i rfl; omega))
        obtain ⟨L, hL⟩ := hin.out x hxK
        have hLl := hlen.out x L hL
        have c2 : W2.cell? ⟨gb, 1, none⟩ = some (.map (some bh)) := cbel hb2.out c1
        obtain ⟨cx, hlx, hcx, hSx⟩ := (hB.out.below hb2.out).look (P := Tryz.prog) (t := 97) (k := 3) (e := 95) Tryz.underlying97 Tryz.underlying3 hzm x hL
        replace hSx := qh hSx
        have hSo2 := qh (hSo.out.below hb2.out)
        have hRx := hR.out x
        rw [hex, hev] at hrun' hen
        have hi2' := qh hi2
        have hsl2 : Hid (seenQ W2 it = S.length + 1) := qh (by rw [seenQ_eq hi2, List.length_append]; rfl)
        have hKp : 0 < K.length := List.length_pos_iff.2 (by rintro rfl; cases hxK)
        have hLK : L.length ≤ 200 := by rw [hLl]; exact Nat.le_trans (hBn.out x) hl
        generalize e.2.2 = st at *
        replace hsl := qh hsl
        replace hRx := qh hRx
        clear hi2 hm2 hrun hon2 hns he hev hex hm hL
        have hwk : IntKind.i64.wrap ((K.length : Int) - 1) = (K.length : Int) - 1 := by simp [IntKind.wrap, IntKind.bits, IntKind.signed]; omega
        by_cases hxk : x = k
        · have hxI : ((x : Int) != (k : Int)) = false := by rw [hxk]; simp
          have hno3 := qh (hno2.out fun h => ((hRx.out.1 h).2.1 hxk))
          clear hno2 hlx hRx
          go_wp2
          refine ⟨⟨S ++ [st], hSn2, hi2', hno3, hon3⟩, ?_⟩
          rw [hsl.out, hsl2.out]; omega
        · have hxI : ((x : Int) != (k : Int)) = true := by simp; omega
          have hl1 := hSx.out.len (P := Tryz.prog) (t := 95) (k := 3) (e := 4) Tryz.underlying95 3
          have hl2 := hSo2.out.len (P := Tryz.prog) (t := 95) (k := 3) (e := 4) Tryz.underlying95 3
          replace hLl := qh hLl
          by_cases hlk2 : L.length + 1 = K.length
          · have hq : ((L.length : Int) == (K.length : Int) - 1) = true := by simp; omega
            have hRs : R = some x := hRx.out.2 ⟨hxK, hxk, by rw [← hLl.out]; exact hlk2⟩
            subst hRs
            clear hno2 hRx
            go_wp2
            go_ret2
            exact ⟨rfl, hb2.out⟩
          · have hq : ((L.length : Int) == (K.length : Int) - 1) = false := by simp; omega
            have hno3 := qh (hno2.out fun h => hlk2 (by rw [hLl.out]; exact (hRx.out.1 h).2.2))
            clear hno2 hRx
            go_wp2
            refine ⟨⟨S ++ [st], hSn2, hi2', hno3, hon3⟩, ?_⟩
            rw [hsl.out, hsl2.out]; omega
end Go.Proofs.YtijkdabmegbcjaaGreatDoor
