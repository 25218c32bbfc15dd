/- Texts of this claim, merged; no condition. -/
import Derived.Test.YtijkdabmegbcjaaGreatDoorQ37
import Derived.Test.YtijkdabmegbcjaaGreatDoorQ28
import Derived.Test.YtijkdabmegbcjaaGreatDoorQ25
import Derived.Test.YtijkdabmegbcjaaGreatDoorQ16
import Derived.Test.YtijkdabmegbcjaaGreatDoorQ02
import Derived.ProofKit
import Derived.OpenShut
import Derived.ShutString
import Derived.ChangeOld
import Derived.Below
import Derived.Test.YtijkdabmegbcjaaGreatDoorQ00
import Derived.LaidMore
import Derived.Test.YtijkdabmegbcjaaGreatDoorQ13
set_option linter.all false
namespace Go.Proofs.YtijkdabmegbcjaaGreatDoor
open Go.RowKit Go.Shelf

def metF (bs : List BlkN) (D : Nat) (B : BlkN) : Option (Int × Value) := (meetN bs D B.first).map fun m => ((B.first : Int), Value.int .i64 m)
def outM (bs : List BlkN) (D : Nat) (sn : List Nat) : List (Int × Value) := sn.filterMap fun j => (bs[j]?).bind (metF bs D)
theorem outM_snoc (bs : List BlkN) (D : Nat) (sn : List Nat) (j : Nat) (hj : j < bs.length) : outM bs D (sn ++ [j]) = outM bs D sn ++ (metF bs D bs[j]).toList := by
  unfold outM
  rw [List.filterMap_append]
  congr 1
  rw [List.filterMap_cons, List.getElem?_eq_getElem hj, Option.bind_some]
  cases metF bs D bs[j] <;> rfl
theorem outM_key {bs : List BlkN} {D : Nat} {sn : List Nat} {x : Int × Value} (h : x ∈ outM bs D sn) : ∃ j ∈ sn, ∃ hj : j < bs.length, x.1 = (bs[j].first : Int) := by
  unfold outM at h
  obtain ⟨j, hj, he⟩ := List.mem_filterMap.1 h
  cases e : bs[j]? with
  | none => rw [e] at he; cases he
  | some B =>
    rw [e, Option.bind_some] at he
    obtain ⟨hlt, rfl⟩ := List.getElem?_eq_some_iff.1 e
    obtain ⟨m, hm, rfl⟩ := Option.map_eq_some_iff.1 he
    exact ⟨j, hj, hlt, rfl⟩
theorem outM_all (bs : List BlkN) (D : Nat) : ∀ k, k ≤ bs.length → outM bs D (List.range k) = (bs.take k).filterMap (metF bs D)
  | 0, _ => rfl
  | k + 1, h => by
    rw [List.range_succ, outM_snoc bs D _ k (by omega), outM_all bs D k (by omega), List.take_succ_eq_append_getElem (by omega), List.filterMap_append]
    rw [List.filterMap_cons]
    cases metF bs D bs[k] <;> rfl
theorem findI_mem {n : Int} {v : Value} : ∀ {l : List (Int × Value)}, (l.map (·.1)).Nodup → (n, v) ∈ l → findI n l = some v
  | [], _, h => by cases h
  | x :: l, hn, h => by
    rw [List.map_cons, List.nodup_cons] at hn
    show (if n = x.1 then some x.2 else findI n l) = _
    rcases List.mem_cons.1 h with e | h
    · rw [← e, if_pos rfl]
    · rw [if_neg (fun e => hn.1 (List.mem_map.2 ⟨_, h, e⟩))]
      exact findI_mem hn.2 h
theorem outM_nodup {bs : List BlkN} {D : Nat} (g : Graph bs D) : ∀ {sn : List Nat}, sn.Nodup → ((outM bs D sn).map (·.1)).Nodup
  | [], _ => List.nodup_nil
  | j :: sn, hn => by
    rw [List.nodup_cons] at hn
    have ih := outM_nodup g hn.2
    unfold outM at ih ⊢
    rw [List.filterMap_cons]
    cases e : bs[j]? with
    | none => exact ih
    | some B =>
      rw [Option.bind_some]
      cases e2 : metF bs D B with
      | none => exact ih
      | some b =>
        obtain ⟨hlt, rfl⟩ := List.getElem?_eq_some_iff.1 e
        obtain ⟨m, hm, rfl⟩ := Option.map_eq_some_iff.1 e2
        rw [List.map_cons, List.nodup_cons]
        refine ⟨fun hx => ?_, ih⟩
        obtain ⟨y, hy, he⟩ := List.mem_map.1 hx
        obtain ⟨i, hi, hil, hk⟩ := outM_key (sn := sn) hy
        rw [hk] at he
        have hij : i = j := by
          have h1 := g.nodup
          have h2 : (keysB bs)[i]'(by simpa [keysB] using hil) = (keysB bs)[j]'(by simpa [keysB] using hlt) := by simp only [keysB, List.getElem_map]; omega
          exact (List.getElem_inj h1).1 h2
        exact hn.1 (by rw [← hij]; exact hi)
/-- The meets, in memory. -/
structure MetsAt (bs : List BlkN) (D : Nat) (w : World) (ob : Nat) : Prop where
  ex : ∃ l, w.heap[ob]? = some (mapI .i64 l) ∧ l.length = (bs.filterMap (metF bs D)).length ∧ ∀ B ∈ bs, findI (B.first : Int) l = (meetN bs D B.first).map fun m => Value.int .i64 m
theorem mets_of {bs : List BlkN} {D : Nat} (g : Graph bs D) {sn : List Nat} (hp : sn.Perm (List.range bs.length)) {w : World} {ob : Nat} (h : w.heap[ob]? = some (mapI .i64 (outM bs D sn))) : MetsAt bs D w ob := by
  have hn : sn.Nodup := hp.nodup_iff.2 List.nodup_range
  refine ⟨_, h, ?_, fun B hB => ?_⟩
  · have h1 : (outM bs D sn).Perm (outM bs D (List.range bs.length)) := hp.filterMap _
    rw [h1.length_eq, outM_all bs D _ (Nat.le_refl _), List.take_length]
  · obtain ⟨j, hj, rfl⟩ := List.getElem_of_mem hB
    cases e : meetN bs D bs[j].first with
    | none =>
      refine findI_key fun hx => ?_
      obtain ⟨y, hy, he⟩ := List.mem_map.1 hx
      unfold outM at hy
      obtain ⟨i, hi, hy2⟩ := List.mem_filterMap.1 hy
      cases e3 : bs[i]? with
      | none => rw [e3] at hy2; cases hy2
      | some C =>
        rw [e3, Option.bind_some] at hy2
        obtain ⟨m, hm, rfl⟩ := Option.map_eq_some_iff.1 hy2
        have : C.first = bs[j].first := by simp only at he; omega
        rw [this, e] at hm
        cases hm
    | some m =>
      refine findI_mem (outM_nodup g hn) ?_
      unfold outM
      refine List.mem_filterMap.2 ⟨j, hp.mem_iff.2 (List.mem_range.2 hj), ?_⟩
      rw [List.getElem?_eq_getElem hj, Option.bind_some]
      unfold metF
      rw [e]; rfl
set_option maxRecDepth 100000 in
set_option maxHeartbeats 8000000 in
theorem meets_any (cs : List Nat) (a : Option Addr) (c : Nat) (w : World) (h : CodeAt w a c cs) (hl : cs.length ≤ 100) :
    Calls Tryz.prog 35 #[.slice a cs.length c] w fun e w' => (∃ ob, e = .returned (.map (some ob)) ∧ w.heap.size ≤ ob ∧ MetsAt (blksN cs) cs.length w' ob) ∧ Below w.heap.size w w' := by
  have g := graph_code cs
  have hbl := blksN_len cs
  have hof := Lib.hid (ofGraph_any cs a c w h hl)
  have hmm : ∀ w, (Instr.makeMap 52 none).run Tryz.prog w = .ok (.map (some w.heap.size)) (w.alloc (.map #[] 0)) := fun _ => rfl
  clear h
  generalize blksN cs = bs at *
  generalize cs.length = D at *
  go_enter Tryz.func35, Tryz.ntmps35
  go_wp2_with fail
  refine wp_scope_fwd 0 rfl ?_
  have hwl : Hid (∀ (w2 : World) (mb : Nat) (l : List (Int × Value)), w2.heap[mb]? = some (mapI .i64 l) → (Builtin.len_ #[96] 3 #[.map (some mb)]).run Tryz.prog w2 = .ok (.int .i64 l.length) w2) := Lib.hid fun w2 mb l h => by
    rw [mapI_Q] at h
    rw [run_lenQ Tryz.underlying96 3 h]
    have := congrArg List.length (stampI_key l 0)
    simp only [List.length_map] at this
    rw [this]
  go_upto_if 16 with (go_at_call 56; refine hof.out.mono ?_; rintro e w1 ⟨⟨gb, rfl, hG⟩, hb1⟩; obtain ⟨mb, cm, hlm, l, hm1, hm2, hm3⟩ := hG.map; have hmw : mb < w1.heap.size := (Array.getElem?_eq_some_iff.1 hm1).1; have hme := Lib.hid hG.meet; have hb2 : Below w1.heap.size w1 (w1.alloc (.map #[] 0)) := xalloc (xrefl w1) _; replace cm := cbel hb2 cm; replace hm1 := (hb2.block mb (Array.getElem?_eq_some_iff.1 hm1).1).trans hm1; have hlen := hwl.out _ _ _ hm1; have hb12 := Lib.hid hb2; have ho1 : (w1.alloc (.map #[] 0)).heap[w1.heap.size]? = some (mapI .i64 []) := World.alloc_heap_new w1 _; have hw1 : w.heap.size ≤ w1.heap.size := hb1.size; replace hb1 := Lib.hid (xtrans hb1 hb2); replace ho1 := Lib.hid ho1; have hs2 : (w1.alloc (.map #[] 0)).heap.size = w1.heap.size + 1 := World.size_alloc _ _; replace hs2 := Lib.hid hs2; replace hm3 := Lib.hid hm3; clear hG hb2; replace hm1 := Lib.hid hm1)
  obtain ⟨w2, hw2⟩ : ∃ w2, w1.alloc (.map #[] 0) = w2 := ⟨_, rfl⟩
  rw [hw2] at cm hm1 hlen hb12 hb1 ho1 hs2
  simp only [hw2]
  have hs2' : w1.heap.size < w2.heap.size := by rw [hs2.out]; exact Nat.lt_succ_self _
  have hl1 : l.length ≤ bs.length := Nat.le_of_eq hm2
  have hl2 : bs.length ≤ l.length := Nat.le_of_eq hm2.symm
  rw [hm2] at hlen
  replace hm2 := Lib.hid hm2
  clear hw2
  by_cases h0 : bs.length = 0
  · have hq : ((bs.length : Int) == 0) = true := by rw [beq_iff_eq]; omega
    rw [hq]
    have hfin : Hid (MetsAt bs D w2 w1.heap.size) := Lib.hid (mets_of g (sn := []) (by rw [h0]; exact List.Perm.refl _) ho1.out)
    clear hlen
    go_wp2
    go_step3
    simp only [Exit.then, Exit.inBlock, fwd_goto]
    refine ⟨trivial, ?_⟩
    go_wp2
    rw [Exit.noGoto_ret]
    go_ret
    exact ⟨⟨_, rfl, hw1, hfin.out⟩, hb1.out⟩
  · have hq : ((bs.length : Int) == 0) = false := by rw [beq_eq_false_iff_ne]; omega
    rw [hq]
    clear hlen h0
    have hmbl := (Array.getElem?_eq_some_iff.1 hm1.out).1
    have hrg := range_mapI (P := Tryz.prog) (t := 96) Tryz.underlying96 hm1.out
    have hb9 : Below w2.heap.size w2 (w2.alloc (itO mb l.length [])) := xalloc (xrefl w2) _
    obtain ⟨it, hit⟩ : ∃ it, it = w2.heap.size := ⟨_, rfl⟩
    have hi9 : (w2.alloc (itO mb l.length [])).heap[it]? = some (itO mb l.length []) := by rw [hit]; exact World.alloc_heap_new w2 _
    have hs9 : (w2.alloc (itO mb l.length [])).heap.size = w2.heap.size + 1 := World.size_alloc _ _
    have hm9 := (hb9.block mb hmbl).trans hm1.out
    have ho9 := (hb9.block w1.heap.size (by omega)).trans ho1.out
    have hb19 := xtrans hb12.out hb9
    have hw9 := xtrans hb1.out hb9
    have hfst : Hid (∀ j (hj : j < l.length) (hjb : j < bs.length), ∃ v, l[j] = (((bs[j]'hjb).first : Int), v)) := Lib.hid fun j hj hjb => by
      obtain ⟨p, q, e, -, -⟩ := hm3.out j hjb
      rw [List.getElem?_eq_getElem hj] at e
      exact ⟨_, Option.some.inj e⟩
    clear hm3 hb1 ho1 hm1 hs2 hb12
    go_wp2
    rw [← hit]
    generalize w2.alloc (itO mb l.length []) = w9 at *
    have hit1 : w2.heap.size ≤ it := by omega
    have hit2 : it < w9.heap.size := by omega
    replace hit := Lib.hid hit
    replace hi9 := Lib.hid hi9
    replace hm9 := Lib.hid hm9
    replace ho9 := Lib.hid ho9
    replace hb19 := Lib.hid hb19
    replace hw9 := Lib.hid hw9
    clear hrg hs9 hb9
    go_loopw [5] (fun _ wx => ∃ sn : List Nat, Hid (sn.Nodup ∧ ∀ j ∈ sn, j < l.length) ∧ Hid (wx.heap[it]? = some (itO mb l.length sn)) ∧ Hid (wx.heap[w1.heap.size]? = some (mapI .i64 (outM bs D sn))) ∧ Hid (Only (fun k => k = it ∨ k = w1.heap.size) w9 wx)) (fun _ wx => l.length - seenAt wx it)
    case atStart => exact ⟨[], Lib.hid ⟨List.nodup_nil, by simp⟩, hi9, ho9, Lib.hid (Only.refl _ _)⟩
    case round =>
      clear hi9 ho9
      obtain ⟨sn, hsn, hi, ho, hon⟩ := hrel
      have hsz := hon.out.size
      have hmr : wr.heap[mb]? = some (mapI .i64 l) := (hon.out.same mb (by omega) (by omega)).trans hm9.out
      have hbw := hon.out.below hw9.out hw9.out.size (by rintro k (rfl | rfl) <;> omega)
      rcases next_mapI (P := Tryz.prog) 0 hi.out hmr with ⟨hall, hrun⟩ | ⟨j, hj, hns, W2, hrun, hon2, hi2⟩
      · have hrun' : ∀ ty, (Instr.next (.pointer (some ⟨it, 0, none⟩)) false ty).run Tryz.prog wr = _ := fun ty => hrun
        have hp := perm_seen hsn.out.1 hsn.out.2 hall
        rw [hm2.out] at hp
        have hfin := Lib.hid (mets_of g hp ho.out)
        replace hbw := Lib.hid hbw
        clear hrun hall hi ho hon hmr hp
        go_wp2
        go_step3
        go_wp2
        rw [fwd_ret]
        go_ret
        exact ⟨⟨_, rfl, hw1, hfin.out⟩, hbw.out⟩
      · have hrun' : ∀ ty, (Instr.next (.pointer (some ⟨it, 0, none⟩)) false ty).run Tryz.prog wr = _ := fun ty => hrun
        have hmb2 : W2.heap[mb]? = some (mapI .i64 l) := (hon2.same mb (Array.getElem?_eq_some_iff.1 hmr).1 (by omega)).trans hmr
        have hen := entry_mapI (P := Tryz.prog) hj hi2 hmb2
        have hjb : j < bs.length := by omega
        obtain ⟨v, hlj⟩ := hfst.out j hj hjb
        rw [hlj] at hrun' hen
        have hslt := seen_lt hsn.out.1 hsn.out.2 hj hns
        have hsl : seenAt wr it = sn.length := seenAt_eq hi.out
        have hsn3 : Hid ((sn ++ [j]).Nodup ∧ ∀ i ∈ sn ++ [j], i < l.length) := Lib.hid ⟨by rw [List.nodup_append]; exact ⟨hsn.out.1, by simp, fun a ha b hb e => hns (by simp at hb; subst hb; rw [← e]; exact ha)⟩, fun i hi => by
          rcases List.mem_append.1 hi with h | h
          · exact hsn.out.2 i h
          · simp at h; omega⟩
        have hon3 : Only (fun k => k = it ∨ k = w1.heap.size) w9 W2 := hon.out.trans (hon2.mono fun _ _ e => .inl e)
        have hbW := hon3.below hw9.out hw9.out.size (by rintro k (rfl | rfl) <;> omega)
        have hoW := (hon2.same w1.heap.size (Array.getElem?_eq_some_iff.1 ho.out).1 (by omega)).trans ho.out
        have hltW := hon3.size
        have hsnoc := Lib.hid (outM_snoc bs D sn j hjb)
        have hkn : ∀ x ∈ outM bs D sn, x.1 ≠ (bs[j].first : Int) := fun x hx e => by
          obtain ⟨i, hi, hil, he⟩ := outM_key hx
          have hij : i = j := by
            have h1 := g.nodup
            have h2 : (keysB bs)[i]'(by simpa [keysB] using hil) = (keysB bs)[j]'(by simpa [keysB] using hjb) := by simp only [keysB, List.getElem_map]; omega
            exact (List.getElem_inj h1).1 h2
          exact hns (by rw [← hij]; exact hi)
        have hcall := meet_any bs D g gb (bs[j].first : Int) W2 (hme.out.old fun k hk => (hon3.same k (Nat.lt_of_lt_of_le hk.2 hb19.out.size) (by have := hk.2; rintro (rfl | rfl) <;> omega)).trans (hb19.out.block k hk.2)) (by omega)
        rw [meetZ_nat] at hcall
        unfold metF at hsnoc
        generalize bs[j].first = k at *
        replace hcall := Lib.hid hcall
        replace hoW := Lib.hid hoW
        replace hi2 := Lib.hid hi2
        replace hsl := Lib.hid hsl
        replace hon3 := Lib.hid hon3
        clear hrun hon2 hmb2 hmr hns hlj hi ho hon hbw
        cases hm : meetN bs D k with
        | none =>
          rw [hm] at hcall hsnoc
          replace hsnoc := Lib.hid (show outM bs D (sn ++ [j]) = outM bs D sn from by rw [hsnoc.out]; simp)
          clear hm hkn
          go_wp2_with (go_at_call 57; refine hcall.out.mono ?_; rintro e W3 ⟨rfl, hb3⟩; unfold atV; have hi3 := (hb3.block it (Array.getElem?_eq_some_iff.1 hi2.out).1).trans hi2.out; have ho3 := (hb3.block w1.heap.size (Array.getElem?_eq_some_iff.1 hoW.out).1).trans hoW.out; replace hb3 := Lib.hid hb3; replace hi3 := Lib.hid hi3; replace ho3 := Lib.hid ho3)
          refine ⟨⟨sn ++ [j], hsn3, hi3, Lib.hid (by rw [hsnoc.out]; exact ho3.out), Lib.hid (hon3.out.trans (Below.only hb3.out))⟩, ?_⟩
          rw [hsl.out, seenAt_eq hi3.out]; simp; omega
        | some m =>
          rw [hm] at hcall hsnoc
          replace hsnoc := Lib.hid (show outM bs D (sn ++ [j]) = outM bs D sn ++ [((k : Int), Value.int .i64 m)] from by rw [hsnoc.out]; rfl)
          have hup := Lib.hid (updI_new (v := Value.int .i64 m) hkn)
          clear hm hkn
          go_wp2_with (first
            | (go_at_call 57; refine hcall.out.mono ?_; rintro e W3 ⟨rfl, hb3⟩; unfold atV; have hi3 := (hb3.block it (Array.getElem?_eq_some_iff.1 hi2.out).1).trans hi2.out; have ho3 := (hb3.block w1.heap.size (Array.getElem?_eq_some_iff.1 hoW.out).1).trans hoW.out; replace hb3 := Lib.hid hb3; replace hi3 := Lib.hid hi3; replace ho3 := Lib.hid ho3)
            | (refine wpList_putI rfl _ 3 3 .i64 _ _ _ rfl (by kernel_rfl) (by kernel_rfl) w1.heap.size (k : Int) (.int .i64 m) _ rfl rfl rfl ho3.out ?_; intro W4 hm4 ho4; rw [hup.out, ← hsnoc.out] at hm4; have hi4 := (ho4.same it (Array.getElem?_eq_some_iff.1 hi3.out).1 (by omega)).trans hi3.out; replace hm4 := Lib.hid hm4; replace ho4 := Lib.hid ho4; replace hi4 := Lib.hid hi4))
          go_roundw
          case rel =>
            (repeat apply Exists.intro)
            exact ⟨⟨sn ++ [j], hsn3, hi4, hm4, Lib.hid ((hon3.out.trans (Below.only hb3.out)).trans (ho4.out.mono fun _ _ e => .inr e))⟩, rfl⟩
          case measure => rw [hsl.out, seenAt_eq hi4.out]; simp; omega
end Go.Proofs.YtijkdabmegbcjaaGreatDoor
namespace Go.Proofs.YtijkdabmegbcjaaGreatDoor
open Go.RowKit Go.Shelf
attribute [local go_sem] Oper.semAt_some

end Go.Proofs.YtijkdabmegbcjaaGreatDoor
namespace Go.Proofs.YtijkdabmegbcjaaGreatDoor
open Go.RowKit Go.Shelf
attribute [local go_sem] Oper.semAt_some

end Go.Proofs.YtijkdabmegbcjaaGreatDoor
namespace Go.Proofs.YtijkdabmegbcjaaGreatDoor
open Go.RowKit Go.Shelf
attribute [local go_sem] Oper.semAt_some

def worksM : List Nat := [96, 8, 96, 6, 87, 95, 91, 95, 91, 0]
theorem worksM0 : meetZ (blksN worksM) 10 0 = some 6 := by kernel_rfl
theorem worksM6 : meetZ (blksN worksM) 10 6 = some 8 := by kernel_rfl
theorem worksM8 : meetZ (blksN worksM) 10 8 = none := by kernel_rfl
theorem worksMB : behindZ (blksN worksM) 10 0 = [0, 6, 8] := by kernel_rfl
theorem worksML : lineZ (blksN worksM) 10 5 = [5, 6, 8] := by kernel_rfl
theorem worksME : exitsZ (blksN worksM) 10 1 (-1) = false := by kernel_rfl
/-- What has come of a line. -/
def LnS (B r : Nat) (k : Nat) (S : Nat → Prop) (W : World) : Prop := BoxR B 3 1 42 r (([5, 6, 8] : List Nat).take k).length ((natI (([5, 6, 8] : List Nat).take k)).map (Value.int .i64)) S W
set_option maxRecDepth 100000 in
set_option maxHeartbeats 8000000 in
theorem works12_any (w : World) : Calls Tryz.prog 25 #[] w fun e w' => e = .returned (.bool true) ∧ Below w.heap.size w w' := by
  obtain ⟨i0, hi0, hz0, hz1, hz2⟩ := info_parts info_int
  have g : Graph (blksN worksM) 10 := graph_code worksM
  have hb0 : Hid (Below w.heap.size w (w.alloc (.cells #[.int .u8 96, .int .u8 8, .int .u8 96, .int .u8 6, .int .u8 87, .int .u8 95, .int .u8 91, .int .u8 95, .int .u8 91, .int .u8 0] 5))) := Lib.hid (xalloc (xrefl w) _)
  have hC : Hid (CodeAt (w.alloc (.cells #[.int .u8 96, .int .u8 8, .int .u8 96, .int .u8 6, .int .u8 87, .int .u8 95, .int .u8 91, .int .u8 95, .int .u8 91, .int .u8 0] 5)) (some ⟨w.heap.size, 0, none⟩) 10 worksM) := Lib.hid ⟨rowAt_new w _ (natI worksM), (fun e => by cases e), by decide, by decide, by decide⟩
  have hf0 : Hid (∀ W, CodeAt W (some ⟨w.heap.size, 0, none⟩) 10 worksM → Calls Tryz.prog 26 #[.slice (some ⟨w.heap.size, 0, none⟩) 10 10, .int .i64 0] W fun e w' => e = .returned (.tuple #[.int .i64 6, .bool true]) ∧ Below W.heap.size W w') := Lib.hid fun W h => by
    have := meetM_any worksM 0 _ 10 W h (by decide)
    rw [show meetZ (blksN worksM) worksM.length 0 = some 6 from worksM0] at this
    exact this
  have hf6 : Hid (∀ W, CodeAt W (some ⟨w.heap.size, 0, none⟩) 10 worksM → Calls Tryz.prog 26 #[.slice (some ⟨w.heap.size, 0, none⟩) 10 10, .int .i64 6] W fun e w' => e = .returned (.tuple #[.int .i64 8, .bool true]) ∧ Below W.heap.size W w') := Lib.hid fun W h => by
    have := meetM_any worksM 6 _ 10 W h (by decide)
    rw [show meetZ (blksN worksM) worksM.length 6 = some 8 from worksM6] at this
    exact this
  have hf8 : Hid (∀ W, CodeAt W (some ⟨w.heap.size, 0, none⟩) 10 worksM → Calls Tryz.prog 26 #[.slice (some ⟨w.heap.size, 0, none⟩) 10 10, .int .i64 8] W fun e w' => e = .returned (.tuple #[.int .i64 0, .bool false]) ∧ Below W.heap.size W w') := Lib.hid fun W h => by
    have := meetM_any worksM 8 _ 10 W h (by decide)
    rw [show meetZ (blksN worksM) worksM.length 8 = none from worksM8] at this
    exact this
  have hfe : Hid (∀ W, CodeAt W (some ⟨w.heap.size, 0, none⟩) 10 worksM → Calls Tryz.prog 28 #[.slice (some ⟨w.heap.size, 0, none⟩) 10 10, .int .i64 1] W fun e w' => e = .returned (.bool false) ∧ Below W.heap.size W w') := Lib.hid fun W h => by
    have := endsM_any worksM 1 _ 10 W h (by decide)
    rw [show exitsZ (blksN worksM) worksM.length 1 (-1) = false from worksME] at this
    exact this
  have hfb : Hid (∀ W, CodeAt W (some ⟨w.heap.size, 0, none⟩) 10 worksM → Calls Tryz.prog 30 #[.slice (some ⟨w.heap.size, 0, none⟩) 10 10, .int .i64 0] W fun e w' => (∃ a c, e = .returned (.slice a 3 c) ∧ IntsAt w' a c [0, 6, 8]) ∧ Below W.heap.size W w') := Lib.hid fun W h => by
    have := behindM_any worksM 0 _ 10 W h (by decide)
    rw [show behindZ (blksN worksM) worksM.length 0 = [0, 6, 8] from worksMB] at this
    refine this.mono ?_
    rintro e w' ⟨⟨v, rfl, ho⟩, hb⟩
    obtain ⟨a, c, rfl, hI, -⟩ := ho.at
    exact ⟨⟨a, c, rfl, hI⟩, hb⟩
  have hfl : Hid (∀ W, CodeAt W (some ⟨w.heap.size, 0, none⟩) 10 worksM → Calls Tryz.prog 33 #[.slice (some ⟨w.heap.size, 0, none⟩) 10 10, .int .i64 5] W fun e w' => (∃ b5 b3 gb, e = .returned (.func (.func 63) #[] #[.pointer (some ⟨b5, 0, none⟩), .pointer (some ⟨b3, 0, none⟩)]) ∧ LnAt (blksN worksM) 5 b5 b3 gb W.heap.size w') ∧ Below W.heap.size W w') := Lib.hid fun W h => line_any worksM 5 _ 10 W h (by decide)
  have hnil := fun m k W => run_eql_fn_nil (P := Tryz.prog) 48 (by kernel_rfl) (.func 63) #[] #[.pointer (some ⟨m, 0, none⟩), .pointer (some ⟨k, 0, none⟩)] W
  refine (callsIn_wide (n := 0)).1 ?_
  refine callsIn_of_wp_marks Tryz.func25 rfl trivial ?_ rfl
  simp only [Tryz.ntmps25, List.size_toArray, List.length_cons, List.length_nil, Nat.reduceAdd, Nat.reduceSub, Array.replicate_succ, Array.replicate_zero, List.push_toArray, List.append_toArray, List.nil_append, List.cons_append]
  refine wpIn_wide.2 ?_
  go_wp2_with (first
    | (go_at_call 26; (with_reducible refine (hf0.out _ hC.out).mono ?_); rintro e w1 ⟨rfl, hb1⟩; have hC1 := Lib.hid (hC.out.below hb1); replace hb1 := Lib.hid (xtrans hb0.out hb1); clear hf0 hC)
    | (go_at_call 26; (with_reducible refine (hf6.out _ hC1.out).mono ?_); rintro e w2 ⟨rfl, hb2⟩; have hC2 := Lib.hid (hC1.out.below hb2); replace hb2 := Lib.hid (xtrans hb1.out hb2); clear hf6 hC1 hb1)
    | (go_at_call 26; (with_reducible refine (hf8.out _ hC2.out).mono ?_); rintro e w3 ⟨rfl, hb3⟩; have hC3 := Lib.hid (hC2.out.below hb3); have hC3b := Lib.hid (hC3.out.below (xalloc (xrefl w3) (.cells #[.slice none 0 0] 42))); replace hb3 := Lib.hid (xtrans hb2.out hb3); clear hf8 hC2 hb2)
    | (go_at_call 33; (with_reducible refine (hfl.out _ hC3b.out).mono ?_); rintro e w4 ⟨⟨b5, b3, gb, rfl, hL⟩, hb4⟩; rw [World.size_alloc] at hL; have hC4 := Lib.hid (hC3b.out.below hb4); replace hL := Lib.hid hL; replace hb4 := Lib.hid hb4; clear hfl hC3b))
  refine (wpIn_wide (n := 0)).1 ?_
  have hB0 := boxR_new (B := w3.heap.size) (ET := 3) (sz := 1) w3 42 (Nat.le_refl _)
  have hS1 : LnS w3.heap.size w3.heap.size 0 (· = w3.heap.size) w4 := boxR_fac.below hB0 hb4.out
  have hb34 := xtrans (xalloc (xrefl w3) (.cells #[.slice none 0 0] 42)) hb4.out
  have hs4 := hb4.out.size
  rw [World.size_alloc] at hs4
  have hw3 := hb3.out.size
  refine wp_rangeL (w0 := w3) (gf := 63) (lb := #[.pointer (some ⟨b5, 0, none⟩), .pointer (some ⟨b3, 0, none⟩)]) rfl (enters_of Tryz.func63 (by kernel_rfl) rfl) (encs := fun x : Nat => #[.int .i64 x]) (Rd := WkRd (w3.heap.size + 1) w4) [5, 6, 8]
    (fun k hk => hk.2) hb34 (fun W hW => by have := line_seq (blksN worksM) 10 g (by decide) 5 b5 b3 gb (w3.heap.size + 1) w4 W hL.out hW; rwa [worksML] at this) (fun x => rfl) (LnS w3.heap.size w3.heap.size) (fun _ _ _ _ => False) (fun k S => boxR_fac) (fun _ _ _ => ⟨fun _ _ h _ _ => h, fun _ h => h.elim⟩) (· = w3.heap.size)
    (fun j hj => ⟨by omega, fun hr => by have := hr.1; omega⟩) hS1 ?round ?done ?stop
  case round =>
    intro l0 k hk W
    have hst : Hid (([5, 6, 8] : List Nat).take (k + 1) = ([5, 6, 8] : List Nat).take k ++ [([5, 6, 8] : List Nat)[k]]) := Lib.hid (List.take_succ_eq_append_getElem hk)
    have hm1 : (([5, 6, 8] : List Nat).take k).length ≤ 200 := by rw [List.length_take]; simp at hk ⊢; omega
    have hOS : LnS w3.heap.size w3.heap.size k = BoxR w3.heap.size 3 1 42 w3.heap.size (([5, 6, 8] : List Nat).take k).length ((natI (([5, 6, 8] : List Nat).take k)).map (Value.int .i64)) := by funext S W; rfl
    have hOS2 : LnS w3.heap.size w3.heap.size (k + 1) = BoxR w3.heap.size 3 1 42 w3.heap.size (([5, 6, 8] : List Nat).take (k + 1)).length ((natI (([5, 6, 8] : List Nat).take (k + 1))).map (Value.int .i64)) := by funext S W; rfl
    rw [hst.out, List.length_append, natI_app, List.map_append] at hOS2
    replace hOS2 := Lib.hid hOS2
    generalize ([5, 6, 8] : List Nat)[k] = x at *
    generalize ([5, 6, 8] : List Nat).take k = T at *
    gi_wp2
    refine ⟨trivial, fun S W2 hb2 hzz _ hSo hS => ?_⟩
    have hsz2 := hb2.size
    rw [hOS] at hS
    obtain ⟨v, h1, h2, h3, h4, h5⟩ := hS
    have hcb := h1.cell
    have hfb := h1.free
    have hb3' : Below W2.heap.size W2 (W2.alloc (.cells #[.int .i64 x] 3)) := xalloc (xrefl _) _
    have hmid := Lib.hid fun V5 W5 (hg5 : (W2.alloc (.cells #[.int .i64 x] 3)).grownBy W5 v.ownBlock) (o5 : W5.ownsRow w3.heap.size 3 1 V5 (T.length + 1) ((natI T).map (Value.int .i64) ++ [.int .i64 x])) hvb => boxR_next (S := S) (by decide) h1 h2 h3 h4 hb3' hg5 o5 hvb
    have h2a := Lib.hid (h2.alloc (.cells #[.int .i64 x] 3))
    have hne := Lib.hid (own_ne h2 h1 (by decide))
    have h1a := Lib.hid (h1.below hb3')
    replace h5 := Lib.hid h5
    replace hSo := Lib.hid hSo
    have hq1 := Lib.hid (Box.new W2 (.int .i64 x) 3).cell
    clear h1 h2 h3 h4 hb3' hb2 hOS
    obtain ⟨a4, c4, rfl⟩ := own_slice h2a.out
    gi_wp2_with (gi_at_builtin; refine wpListIn_append_blkV (W2.alloc (.cells #[.int .i64 x] 3)) rfl _ _ 42 rfl w3.heap.size 3 i0 (.int .i64 0) 1 8 Tryz.underlying42 hi0 hz0 hz1 hz2 rfl (by decide) (.slice a4 T.length c4) T.length _ rfl h2a.out ⟨W2.heap.size, 0, none⟩ 1 1 [.int .i64 x] rfl rfl (by intro j u hj; match j, hj with | 0, hj => (injection hj with hj; subst hj; exact hq1.out)) (by simp [Value.oneCell']) (by unfold maxLen; omega) (by omega) (by rw [World.size_alloc]; omega) ?_; intro V5 W5 o5 hg5 hvb; have hfin := Lib.hid (hmid.out V5 W5 hg5 o5 hvb); have c5 := (h1a.out.only (only_grown hg5) hne.out); have cc5 := c5.cell; have cf5 := c5.free; obtain ⟨a5, e5, rfl⟩ := own_slice o5; clear hg5 o5 hvb c5 hmid)
    obtain ⟨ho, S', hS', hB⟩ := hfin.out
    exact ⟨ho, S', hS', by rw [hOS2.out]; exact hB⟩
  case done =>
    intro D S W hD hSD hb _ _ hS hK
    have hCW := Lib.hid (hC3.out.below hb)
    unfold LnS at hS
    obtain ⟨v, h1, h2, h3, h4, h5⟩ := hS
    have hn7 : ([5, 6, 8] : List Nat).take ([5, 6, 8] : List Nat).length = [5, 6, 8] := rfl
    rw [hn7] at h2
    obtain ⟨a4, c4, rfl⟩ := own_slice h2
    have hK2 := (Array.getElem?_eq_some_iff.1 hK).1
    have hbW := xtrans hb3.out hb
    have hml : IntsAt W a4 c4 [5, 6, 8] := by
      obtain ⟨a', c', e, hr, hn, -⟩ := rowV_own h2
      cases e
      exact ⟨RowV.ints hr, hn⟩
    replace hml := Lib.hid hml
    replace h1 := Lib.hid h1
    replace hK := Lib.hid hK
    replace hbW := Lib.hid hbW
    clear hL hC4 hb4 hB0 hS1 hb34 hb h2 h3 h4 h5
    go_wp2_with (first
      | (go_at_call 30; (with_reducible refine (hfb.out _ hCW.out).mono ?_); rintro e w5 ⟨⟨p5, q5, rfl, hI5⟩, hb5⟩; have hI6 := Lib.hid (hI5.below (xalloc (xrefl w5) (.cells #[.int .i64 0, .int .i64 6, .int .i64 8] 3))); have hI7 := Lib.hid (show IntsAt (w5.alloc (.cells #[.int .i64 0, .int .i64 6, .int .i64 8] 3)) (some ⟨w5.heap.size, 0, none⟩) 3 [0, 6, 8] from ⟨rowAt_new w5 _ (natI [0, 6, 8]), fun e => by cases e⟩); have hi1 := Lib.hid (show Calls Tryz.prog 22 #[.slice p5 3 q5, .slice (some ⟨w5.heap.size, 0, none⟩) 3 3] (w5.alloc (.cells #[.int .i64 0, .int .i64 6, .int .i64 8] 3)) (fun e w' => e = .returned (.bool true) ∧ ∃ k, w' = (w5.alloc (.cells #[.int .i64 0, .int .i64 6, .int .i64 8] 3)).drewN k) from refInts_any [0, 6, 8] [0, 6, 8] _ _ _ _ _ hI6.out hI7.out (by decide) (by decide)); have hb5a := xtrans hb5 (xalloc (xrefl w5) (.cells #[.int .i64 0, .int .i64 6, .int .i64 8] 3)); replace hb5a := Lib.hid hb5a; clear hb5)
      | (go_at_call 22; (with_reducible refine hi1.out.mono ?_); rintro e w6 ⟨rfl, kk, hw6⟩; have hb6 : Below W.heap.size W w6 := (by rw [hw6]; exact xtrans hb5a.out (xdrewN (xrefl _) kk)); have hcb6 := cbel hb6 h1.out.cell; have hml6 := Lib.hid ((hml.out.below hb6).below (xalloc (xrefl w6) (.cells #[.int .i64 5, .int .i64 6, .int .i64 8] 3))); have hI8 := Lib.hid (show IntsAt (w6.alloc (.cells #[.int .i64 5, .int .i64 6, .int .i64 8] 3)) (some ⟨w6.heap.size, 0, none⟩) 3 [5, 6, 8] from ⟨rowAt_new w6 _ (natI [5, 6, 8]), fun e => by cases e⟩); have hi2 := Lib.hid (show Calls Tryz.prog 22 #[.slice a4 3 c4, .slice (some ⟨w6.heap.size, 0, none⟩) 3 3] (w6.alloc (.cells #[.int .i64 5, .int .i64 6, .int .i64 8] 3)) (fun e w' => e = .returned (.bool true) ∧ ∃ k, w' = (w6.alloc (.cells #[.int .i64 5, .int .i64 6, .int .i64 8] 3)).drewN k) from refInts_any [5, 6, 8] [5, 6, 8] _ _ _ _ _ hml6.out hI8.out (by decide) (by decide)); have hb6a := xtrans hb6 (xalloc (xrefl w6) (.cells #[.int .i64 5, .int .i64 6, .int .i64 8] 3)); replace hb6a := Lib.hid hb6a; clear hb6 hi1 hw6)
      | (go_at_call 22; (with_reducible refine hi2.out.mono ?_); rintro e w7 ⟨rfl, k7, hw7⟩; have hb7 : Below W.heap.size W w7 := (by rw [hw7]; exact xtrans hb6a.out (xdrewN (xrefl _) k7)); have hC7 := Lib.hid (hCW.out.below hb7); replace hb7 := Lib.hid hb7; clear hw7 hi2)
      | (go_at_call 28; (with_reducible refine (hfe.out _ hC7.out).mono ?_); rintro e w8 ⟨rfl, hb8⟩; replace hb8 := Lib.hid (xtrans hb7.out hb8)))
    have hK8 := (hb8.out.block D hK2).trans hK.out
    have hput := (Only.refl (· = D) w8).putObj D (.deferred none) rfl
    have hfin := hput.below (xtrans hbW.out hb8.out) (xtrans hbW.out hb8.out).size (by rintro i rfl; omega)
    refine ⟨by simp [Act.put], .inl ⟨_, _, rfl, run_takeDeferred hK8, ?_⟩⟩
    exact ⟨_, results_tmp rfl _ _ _, rfl, hfin⟩
  case stop => 
    intro D k c S W _ _ _ _ _ _ h
    exact h.elim
end Go.Proofs.YtijkdabmegbcjaaGreatDoor
namespace Go.Proofs.YtijkdabmegbcjaaGreatDoor
open Go.ChangeShapes Go.WideShapes Go.ChangeAt Go.RowKit
open Go.ChangeMaps (open_string shut_string)

/-- What became of the walk of a law: true, and nothing that was there has turned. -/
def Yes (w : World) (e : Ending) (w' : World) : Prop := e = .returned (.bool true) ∧ Below w.heap.size w w'

section
variable {H : Type} {enc : TypeId × Value → H} {P : Program} {w : World} {base : Nat} {spare : Nat → Bool} {held : Bool} {t e : TypeId} {fuel : Nat} {cs : List Value} {x : DataW H × List MemPlace}

/-- A slice of integers. -/
theorem trod_row {q : IntKind} {v : Value} (ht : P.underlying t = some (.slice e)) (he : P.underlying e = some (.int q)) (hc : P.cellsOf e = 1) (h : DataW.trod enc P w base spare held fuel t [v] = some x) :
    ∃ a c zs, v = .slice a zs.length c ∧ RowAt q w a zs ∧ (a = none → c = 0) ∧ zs.length ≤ 9223372036854775807 ∧ ∀ z ∈ zs, (Lit.int q z).wf = true := by
  rcases open_ints ht he hc h with ⟨hcs, _⟩ | ⟨a, len, cap, zs, hcs, _, hl, hm, hz, _, hcell, hw⟩
  · simp only [List.cons.injEq, and_true] at hcs
    exact ⟨none, 0, [], hcs, RowAt.nil, fun _ => rfl, by simp, by simp⟩
  · simp only [List.cons.injEq, and_true] at hcs
    have hlz : len ≤ zs.length := by split at hz <;> omega
    refine ⟨some a, cap, zs.take len, by rw [hcs, List.length_take, Nat.min_eq_left hlz], fun i hi => ?_, by simp, ?_, fun z hz => hw z (List.mem_of_mem_take hz)⟩
    · rw [List.length_take] at hi
      have hcl := hcell i (by omega)
      obtain ⟨b, o, s⟩ := a
      have h0 := hcell 0 (by omega)
      have hs : s = none := by simpa [Addr.add] using World.cell?_spot h0
      subst hs
      refine ⟨b, o, rfl, ?_⟩
      rw [Addr.add_lit] at hcl
      rw [hcl, List.getElem_take, List.getD_eq_getElem?_getD, List.getElem?_eq_getElem (by omega)]
      rfl
    · unfold maxLen at hm
      rw [List.length_take]; omega
end

end Go.Proofs.YtijkdabmegbcjaaGreatDoor
namespace Go.Proofs.YtijkdabmegbcjaaGreatDoor
open Go.ChangeShapes Go.WideShapes Go.ChangeAt Go.RowKit
variable {H : Type} {enc : TypeId × Value → H} {P : Program} {w : World} {base : Nat} {spare : Nat → Bool} {held : Bool} {t e : TypeId} {fuel : Nat} {cs : List Value} {x : DataW H × List MemPlace}

theorem trod_row2 {q : IntKind} {v : Value} (ht : P.underlying t = some (.slice e)) (he : P.underlying e = some (.int q)) (hc : P.cellsOf e = 1) (h : DataW.trod enc P w base spare held fuel t [v] = some x) :
    ∃ a c zs, v = .slice a zs.length c ∧ RowAt q w a zs ∧ (a = none → c = 0) ∧ (zs.length ≤ c ∧ c ≤ 9223372036854775807) ∧ ∀ z ∈ zs, (Lit.int q z).wf = true := by
  obtain ⟨a, c, zs, h1, h2, h3, h4, h5⟩ := trod_row ht he hc h
  refine ⟨a, c, zs, h1, h2, h3, ?_, h5⟩
  rcases open_ints ht he hc h with ⟨hcs, _⟩ | ⟨a', len, cap, zs', hcs, _, hl, hm, _⟩
  · simp only [List.cons.injEq, and_true] at hcs
    rw [h1] at hcs
    injection hcs with e1 e2 e3
    omega
  · simp only [List.cons.injEq, and_true] at hcs
    rw [h1] at hcs
    injection hcs with e1 e2 e3
    unfold maxLen at hm
    omega
end Go.Proofs.YtijkdabmegbcjaaGreatDoor
namespace Go.Proofs.YtijkdabmegbcjaaGreatDoor
open Go.RowKit Go.Shelf

/-- No table is read. -/
def TabF (_ : World) : Prop := True
theorem tab_of_laid {X : Prop} {W : World} (_ : X) : TabF W := trivial
theorem code_of {w : World} {a : Option Addr} {c : Nat} {zs : List Int} (hl : zs.length ≤ c ∧ c ≤ 9223372036854775807) (hr : RowAt .u8 w a zs) (ha : a = none → c = 0) (hw : ∀ z ∈ zs, (Lit.int .u8 z).wf = true) (h2 : zs.length ≤ 200) :
    ∃ cs, zs = natI cs ∧ CodeAt w a c cs := by
  have hz : ∀ z ∈ zs, 0 ≤ z ∧ z ≤ 255 := fun z h => by
    have := hw z h
    simp [Lit.wf, IntKind.min, IntKind.max, IntKind.signed, IntKind.bits] at this
    exact ⟨by omega, by omega⟩
  have e : zs = natI (zs.map Int.toNat) := by
    apply List.ext_getElem (by simp [natI])
    intro i h1 h2
    have := hz zs[i] (List.getElem_mem h1)
    simp [natI]
    omega
  exact ⟨zs.map Int.toNat, e, by rw [← e]; exact hr, ha, by rw [List.length_map]; exact h2, fun x hx => by
    obtain ⟨z, h, rfl⟩ := List.mem_map.1 hx
    have := hz z h
    omega, by rw [List.length_map]; exact hl⟩
end Go.Proofs.YtijkdabmegbcjaaGreatDoor
