/- Texts of this claim, merged; no condition. -/
import Derived.Test.YthpallkphamobaaGreatDoorJ29
import Derived.Test.YthpallkphamobaaGreatDoorJ02
set_option linter.all false
namespace Go.Proofs.YthpallkphamobaaGreatDoor
open Go.RowKit Go.Shelf

set_option maxRecDepth 100000 in
set_option maxHeartbeats 8000000 in
theorem refSame_eq (p : PolN) (a b a2 b2 : Option Addr) (c d c2 d2 : Nat) (w : World) (hp : PolAt w p a c b d) (hq : PolAt w p a2 c2 b2 d2) (hl1 : p.clears.length ≤ 1000000) (hl2 : p.rels.length ≤ 1000000) :
    Calls Tryz.prog 31 #[polV p a c b d, polV p a2 c2 b2 d2] w fun e w' => e = .returned (.bool true) ∧ Below w.heap.size w w' := by
  have hP : BlkG ((w.alloc (.cells #[labV p.dflt, .slice a p.clears.length c, .slice b p.rels.length d] 27)).alloc (.cells #[labV p.dflt, .slice a2 p.clears.length c2, .slice b2 p.rels.length d2] 27)) w.heap.size 27 [labV p.dflt, .slice a p.clears.length c, .slice b p.rels.length d] := (BlkG.new w _ [labV p.dflt, .slice a p.clears.length c, .slice b p.rels.length d]).alloc _
  have hQ : BlkG ((w.alloc (.cells #[labV p.dflt, .slice a p.clears.length c, .slice b p.rels.length d] 27)).alloc (.cells #[labV p.dflt, .slice a2 p.clears.length c2, .slice b2 p.rels.length d2] 27)) (w.heap.size + 1) 27 [labV p.dflt, .slice a2 p.clears.length c2, .slice b2 p.rels.length d2] := by
    have := BlkG.new (w.alloc (.cells #[labV p.dflt, .slice a p.clears.length c, .slice b p.rels.length d] 27)) 27 [labV p.dflt, .slice a2 p.clears.length c2, .slice b2 p.rels.length d2]
    rwa [World.size_alloc] at this
  have hb0 : Below w.heap.size w ((w.alloc (.cells #[labV p.dflt, .slice a p.clears.length c, .slice b p.rels.length d] 27)).alloc (.cells #[labV p.dflt, .slice a2 p.clears.length c2, .slice b2 p.rels.length d2] 27)) := xalloc (xalloc (xrefl w) _) _
  have hok := hp.ok
  have hp2 := hp.below hb0
  have hq2 := hq.below hb0
  have hadC := Lib.hid fun x hx => clearC_len (hok.adrC (x := x) hx)
  have hadR := Lib.hid fun x hx => relC_len (hok.adrR (x := x) hx)
  have haC := Lib.hid fun x hx => hok.adrC (x := x) hx
  have haR := Lib.hid fun x hx => hok.adrR (x := x) hx
  clear hok hp hq
  unfold polV
  unfold labV at hP hQ hb0 hp2 hq2
  unfold labV
  go_enter Tryz.func31, Tryz.ntmps31
  go_upto_region 1 with fail
  generalize ((w.alloc (.cells #[.int .u64 (iv64 p.dflt), .slice a p.clears.length c, .slice b p.rels.length d] 27)).alloc (.cells #[.int .u64 (iv64 p.dflt), .slice a2 p.clears.length c2, .slice b2 p.rels.length d2] 27)) = w2 at *
  have hcs : Hid (∀ W, Below w2.heap.size w2 W → (W.cell? ⟨w.heap.size, 1, none⟩ = some (.slice a p.clears.length c) ∧ W.cell? ⟨w.heap.size + 1, 1, none⟩ = some (.slice a2 p.clears.length c2)) ∧ W.cell? ⟨w.heap.size, 2, none⟩ = some (.slice b p.rels.length d) ∧ W.cell? ⟨w.heap.size + 1, 2, none⟩ = some (.slice b2 p.rels.length d2)) := Lib.hid fun W hb => ⟨⟨cbel hb (blk_cell hP (i := 1) rfl), cbel hb (blk_cell hQ (i := 1) rfl)⟩, cbel hb (blk_cell hP (i := 2) rfl), cbel hb (blk_cell hQ (i := 2) rfl)⟩
  have k0 := blk_cell hP (i := 0) rfl
  have k1 := blk_cell hP (i := 1) rfl
  have k2 := blk_cell hP (i := 2) rfl
  have q0 := blk_cell hQ (i := 0) rfl
  have q1 := blk_cell hQ (i := 1) rfl
  have q2 := blk_cell hQ (i := 2) rfl
  replace hP := Lib.hid hP
  replace hQ := Lib.hid hQ
  replace hp2 := Lib.hid hp2
  replace hq2 := Lib.hid hq2
  replace hb0 := Lib.hid hb0
  go_upto_region 3 with fail
  clear k0 k1 k2 q0 q1 q2
  go_wp2_with fail
  go_loopw [5] (fun iv wr => ∃ i : Nat, iv = .int .i64 i ∧ i ≤ p.clears.length ∧ Hid (Below w2.heap.size w2 wr)) (fun iv _ => p.clears.length - (intOf iv).toNat)
  case atStart => exact ⟨0, rfl, by omega, Lib.hid (xrefl w2)⟩
  case round =>
    obtain ⟨i, rfl, hi, hbw⟩ := hrel
    obtain ⟨⟨k1, q1⟩, k2, q2⟩ := hcs.out wr hbw.out
    by_cases hlt : i < p.clears.length
    · have hltI : (i : Int) < p.clears.length := by omega
      obtain ⟨g, o, rfl, hr⟩ := (hp2.out.below hbw.out).cl.elt i hlt
      obtain ⟨g2, o2, rfl, hr2⟩ := (hq2.out.below hbw.out).cl.elt i hlt
      have hx := Lib.hid (haC.out _ (List.getElem_mem hlt))
      have hlx := Lib.hid (hadC.out _ (List.getElem_mem hlt))
      have hwi : IntKind.i64.wrap ((i : Int) + 1) = (i : Int) + 1 := by simp [IntKind.wrap, IntKind.bits, IntKind.signed]; omega
      generalize p.clears[i] = x at *
      have hd : Hid ((!decide (x = x)) = false) := Lib.hid (by simp)
      replace hr := Lib.hid hr
      replace hr2 := Lib.hid hr2
      go_upto_region 6 with fail
      refine' wp_region_growL 11 [fixd (.pointer (some ⟨w.heap.size, 1, none⟩)), fixd (.slice (some ⟨g, o, none⟩) p.clears.length c), fixd (.int .i64 i), fixd (.pointer (some ⟨g, o + i * 21, none⟩)), fixd (.agg (clearC x).toArray), fixd (.pointer (some ⟨w.heap.size + 1, 1, none⟩)), fixd (.slice (some ⟨g2, o2, none⟩) p.clears.length c2), fixd (.int .i64 i), fixd (.pointer (some ⟨g2, o2 + i * 21, none⟩)), fixd (.agg (clearC x).toArray), fixd (.bool false)] (by kernel_rfl) (by kernel_rfl) ?_
      simp only [List.take_succ_cons, List.take_zero, List.drop_succ_cons, List.drop_zero]
      try simp only [Act.put, List.setIfInBounds_toArray, List.set_cons_succ, List.set_cons_zero, List.nil_append, List.cons_append]
      apply wpGrowV_fix (.pointer (some ⟨w.heap.size, 1, none⟩)) rfl rfl
      · intro W hb hF
        go_simp
        first | exact xrefl W | exact ⟨rfl, xrefl W⟩ | exact ⟨by omega, xrefl W⟩
      try simp only [Act.put, List.setIfInBounds_toArray, List.set_cons_succ, List.set_cons_zero, List.nil_append, List.cons_append]
      apply wpGrowV_fix (.slice (some ⟨g, o, none⟩) p.clears.length c) rfl rfl
      · intro W hb hF
        have c := cbel hb k1
        go_simp
        first | exact xrefl W | exact ⟨rfl, xrefl W⟩
      try simp only [Act.put, List.setIfInBounds_toArray, List.set_cons_succ, List.set_cons_zero, List.nil_append, List.cons_append]
      apply wpGrowV_fix (.int .i64 i) rfl rfl
      · intro W hb hF
        go_simp
        first | exact xrefl W | exact ⟨rfl, xrefl W⟩ | exact ⟨by omega, xrefl W⟩
      try simp only [Act.put, List.setIfInBounds_toArray, List.set_cons_succ, List.set_cons_zero, List.nil_append, List.cons_append]
      apply wpGrowV_fix (.pointer (some ⟨g, o + i * 21, none⟩)) rfl rfl
      · intro W hb hF
        go_simp
        first | exact xrefl W | exact ⟨rfl, xrefl W⟩ | exact ⟨by omega, xrefl W⟩
      try simp only [Act.put, List.setIfInBounds_toArray, List.set_cons_succ, List.set_cons_zero, List.nil_append, List.cons_append]
      apply wpGrowV_fix (.agg (clearC x).toArray) rfl rfl
      · intro W hb hF
        rw [run_load_midV 65 _ rfl (g) (o + i * 21) rfl (clearC x) _ (fun j v hj => cbel hb (hr.out j v hj)) Tryz.underlying65 rfl (by rw [hlx.out]; kernel_rfl)]
        exact ⟨rfl, xrefl W⟩
      try simp only [Act.put, List.setIfInBounds_toArray, List.set_cons_succ, List.set_cons_zero, List.nil_append, List.cons_append]
      apply wpGrowV_fix (.pointer (some ⟨w.heap.size + 1, 1, none⟩)) rfl rfl
      · intro W hb hF
        go_simp
        first | exact xrefl W | exact ⟨rfl, xrefl W⟩ | exact ⟨by omega, xrefl W⟩
      try simp only [Act.put, List.setIfInBounds_toArray, List.set_cons_succ, List.set_cons_zero, List.nil_append, List.cons_append]
      apply wpGrowV_fix (.slice (some ⟨g2, o2, none⟩) p.clears.length c2) rfl rfl
      · intro W hb hF
        have c := cbel hb q1
        go_simp
        first | exact xrefl W | exact ⟨rfl, xrefl W⟩
      try simp only [Act.put, List.setIfInBounds_toArray, List.set_cons_succ, List.set_cons_zero, List.nil_append, List.cons_append]
      apply wpGrowV_fix (.int .i64 i) rfl rfl
      · intro W hb hF
        go_simp
        first | exact xrefl W | exact ⟨rfl, xrefl W⟩ | exact ⟨by omega, xrefl W⟩
      try simp only [Act.put, List.setIfInBounds_toArray, List.set_cons_succ, List.set_cons_zero, List.nil_append, List.cons_append]
      apply wpGrowV_fix (.pointer (some ⟨g2, o2 + i * 21, none⟩)) rfl rfl
      · intro W hb hF
        go_simp
        first | exact xrefl W | exact ⟨rfl, xrefl W⟩ | exact ⟨by omega, xrefl W⟩
      try simp only [Act.put, List.setIfInBounds_toArray, List.set_cons_succ, List.set_cons_zero, List.nil_append, List.cons_append]
      apply wpGrowV_fix (.agg (clearC x).toArray) rfl rfl
      · intro W hb hF
        rw [run_load_midV 65 _ rfl (g2) (o2 + i * 21) rfl (clearC x) _ (fun j v hj => cbel hb (hr2.out j v hj)) Tryz.underlying65 rfl (by rw [hlx.out]; kernel_rfl)]
        exact ⟨rfl, xrefl W⟩
      try simp only [Act.put, List.setIfInBounds_toArray, List.set_cons_succ, List.set_cons_zero, List.nil_append, List.cons_append]
      apply wpGrowV_fix (.bool false) rfl rfl
      · intro W hb hF
        exact grows_okP ((exec_neq_clearC _ _ rfl x x hx.out hx.out rfl rfl).trans (by rw [hd.out])) (xrefl W)
      try simp only [Act.put, List.setIfInBounds_toArray, List.set_cons_succ, List.set_cons_zero, List.nil_append, List.cons_append]
      refine wpGrowV_nil fun W3 hb3 _ => ?_
      replace hb3 := Lib.hid (xtrans hbw.out hb3)
      clear k1 q1 k2 q2
      go_wp2
      exact ⟨⟨i + 1, by first | rfl | simp, by omega, hb3⟩, by simp [intOf]; omega⟩
    · obtain rfl : i = p.clears.length := by omega
      clear hlt
      go_wp2
      clear k1 q1 k2 q2
      go_loopw [6] (fun iv wr2 => ∃ i : Nat, iv = .int .i64 i ∧ i ≤ p.rels.length ∧ Hid (Below w2.heap.size w2 wr2)) (fun iv _ => p.rels.length - (intOf iv).toNat)
      case atStart => exact ⟨0, rfl, by omega, hbw⟩
      case round =>
        clear hbw
        obtain ⟨i, rfl, hi, hbw⟩ := hrel
        obtain ⟨⟨k1, q1⟩, k2, q2⟩ := hcs.out wr hbw.out
        by_cases hlt : i < p.rels.length
        · have hltI : (i : Int) < p.rels.length := by omega
          obtain ⟨g, o, rfl, hr⟩ := (hp2.out.below hbw.out).re.elt i hlt
          obtain ⟨g2, o2, rfl, hr2⟩ := (hq2.out.below hbw.out).re.elt i hlt
          have hx := Lib.hid (haR.out _ (List.getElem_mem hlt))
          have hlx := Lib.hid (hadR.out _ (List.getElem_mem hlt))
          have hwi : IntKind.i64.wrap ((i : Int) + 1) = (i : Int) + 1 := by simp [IntKind.wrap, IntKind.bits, IntKind.signed]; omega
          generalize p.rels[i] = x at *
          have hd : Hid ((!decide (x = x)) = false) := Lib.hid (by simp)
          replace hr := Lib.hid hr
          replace hr2 := Lib.hid hr2
          go_upto_region 11 with fail
          refine' wp_region_growL 11 [fixd (.pointer (some ⟨w.heap.size, 2, none⟩)), fixd (.slice (some ⟨g, o, none⟩) p.rels.length d), fixd (.int .i64 i), fixd (.pointer (some ⟨g, o + i * 22, none⟩)), fixd (.agg (relC x).toArray), fixd (.pointer (some ⟨w.heap.size + 1, 2, none⟩)), fixd (.slice (some ⟨g2, o2, none⟩) p.rels.length d2), fixd (.int .i64 i), fixd (.pointer (some ⟨g2, o2 + i * 22, none⟩)), fixd (.agg (relC x).toArray), fixd (.bool false)] (by kernel_rfl) (by kernel_rfl) ?_
          simp only [List.take_succ_cons, List.take_zero, List.drop_succ_cons, List.drop_zero]
          try simp only [Act.put, List.setIfInBounds_toArray, List.set_cons_succ, List.set_cons_zero, List.nil_append, List.cons_append]
          apply wpGrowV_fix (.pointer (some ⟨w.heap.size, 2, none⟩)) rfl rfl
          · intro W hb hF
            go_simp
            first | exact xrefl W | exact ⟨rfl, xrefl W⟩ | exact ⟨by omega, xrefl W⟩
          try simp only [Act.put, List.setIfInBounds_toArray, List.set_cons_succ, List.set_cons_zero, List.nil_append, List.cons_append]
          apply wpGrowV_fix (.slice (some ⟨g, o, none⟩) p.rels.length d) rfl rfl
          · intro W hb hF
            have c := cbel hb k2
            go_simp
            first | exact xrefl W | exact ⟨rfl, xrefl W⟩
          try simp only [Act.put, List.setIfInBounds_toArray, List.set_cons_succ, List.set_cons_zero, List.nil_append, List.cons_append]
          apply wpGrowV_fix (.int .i64 i) rfl rfl
          · intro W hb hF
            go_simp
            first | exact xrefl W | exact ⟨rfl, xrefl W⟩ | exact ⟨by omega, xrefl W⟩
          try simp only [Act.put, List.setIfInBounds_toArray, List.set_cons_succ, List.set_cons_zero, List.nil_append, List.cons_append]
          apply wpGrowV_fix (.pointer (some ⟨g, o + i * 22, none⟩)) rfl rfl
          · intro W hb hF
            go_simp
            first | exact xrefl W | exact ⟨rfl, xrefl W⟩ | exact ⟨by omega, xrefl W⟩
          try simp only [Act.put, List.setIfInBounds_toArray, List.set_cons_succ, List.set_cons_zero, List.nil_append, List.cons_append]
          apply wpGrowV_fix (.agg (relC x).toArray) rfl rfl
          · intro W hb hF
            rw [run_load_midV 67 _ rfl (g) (o + i * 22) rfl (relC x) _ (fun j v hj => cbel hb (hr.out j v hj)) Tryz.underlying67 rfl (by rw [hlx.out]; kernel_rfl)]
            exact ⟨rfl, xrefl W⟩
          try simp only [Act.put, List.setIfInBounds_toArray, List.set_cons_succ, List.set_cons_zero, List.nil_append, List.cons_append]
          apply wpGrowV_fix (.pointer (some ⟨w.heap.size + 1, 2, none⟩)) rfl rfl
          · intro W hb hF
            go_simp
            first | exact xrefl W | exact ⟨rfl, xrefl W⟩ | exact ⟨by omega, xrefl W⟩
          try simp only [Act.put, List.setIfInBounds_toArray, List.set_cons_succ, List.set_cons_zero, List.nil_append, List.cons_append]
          apply wpGrowV_fix (.slice (some ⟨g2, o2, none⟩) p.rels.length d2) rfl rfl
          · intro W hb hF
            have c := cbel hb q2
            go_simp
            first | exact xrefl W | exact ⟨rfl, xrefl W⟩
          try simp only [Act.put, List.setIfInBounds_toArray, List.set_cons_succ, List.set_cons_zero, List.nil_append, List.cons_append]
          apply wpGrowV_fix (.int .i64 i) rfl rfl
          · intro W hb hF
            go_simp
            first | exact xrefl W | exact ⟨rfl, xrefl W⟩ | exact ⟨by omega, xrefl W⟩
          try simp only [Act.put, List.setIfInBounds_toArray, List.set_cons_succ, List.set_cons_zero, List.nil_append, List.cons_append]
          apply wpGrowV_fix (.pointer (some ⟨g2, o2 + i * 22, none⟩)) rfl rfl
          · intro W hb hF
            go_simp
            first | exact xrefl W | exact ⟨rfl, xrefl W⟩ | exact ⟨by omega, xrefl W⟩
          try simp only [Act.put, List.setIfInBounds_toArray, List.set_cons_succ, List.set_cons_zero, List.nil_append, List.cons_append]
          apply wpGrowV_fix (.agg (relC x).toArray) rfl rfl
          · intro W hb hF
            rw [run_load_midV 67 _ rfl (g2) (o2 + i * 22) rfl (relC x) _ (fun j v hj => cbel hb (hr2.out j v hj)) Tryz.underlying67 rfl (by rw [hlx.out]; kernel_rfl)]
            exact ⟨rfl, xrefl W⟩
          try simp only [Act.put, List.setIfInBounds_toArray, List.set_cons_succ, List.set_cons_zero, List.nil_append, List.cons_append]
          apply wpGrowV_fix (.bool false) rfl rfl
          · intro W hb hF
            exact grows_okP ((exec_neq_relC _ _ rfl x x hx.out hx.out rfl rfl).trans (by rw [hd.out])) (xrefl W)
          try simp only [Act.put, List.setIfInBounds_toArray, List.set_cons_succ, List.set_cons_zero, List.nil_append, List.cons_append]
          refine wpGrowV_nil fun W3 hb3 _ => ?_
          replace hb3 := Lib.hid (xtrans hbw.out hb3)
          clear k1 q1 k2 q2
          go_wp2
          exact ⟨⟨i + 1, by first | rfl | simp, by omega, hb3⟩, by simp [intOf]; omega⟩
        · obtain rfl : i = p.rels.length := by omega
          clear hlt
          go_wp2
          go_ret
          exact ⟨rfl, xtrans hb0.out hbw.out⟩
end Go.Proofs.YthpallkphamobaaGreatDoor
namespace Go.Proofs.YthpallkphamobaaGreatDoor
open Go.RowKit Go.Shelf

def sV (w : List UInt8) : Value := .string ⟨w.toArray⟩
def OwnT (w w' : World) (v : Value) (ws : List (List UInt8)) : Prop := w'.ownsRow w.heap.size 9 1 v ws.length (ws.map sV)
theorem OwnT.nil (w w' : World) : OwnT w w' (.slice none 0 0) [] := ⟨rfl, .inl ⟨rfl, rfl⟩⟩
def glue (cur : List UInt8) : List (List UInt8) → List (List UInt8)
  | [] => [cur]
  | w :: r => (cur ++ w) :: r
theorem glue_nil {S : List (List UInt8)} (h : S ≠ []) : glue [] S = S := by cases S with
  | nil => exact absurd rfl h
  | cons w r => rfl
theorem glue_in (c x : UInt8) (cur t : List UInt8) (h : x ≠ c) : glue cur (splS c (x :: t)) = glue (cur ++ [x]) (splS c t) := by
  rw [splS, if_neg h]
  cases hq : splS c t with
  | nil => exact absurd hq (spl_ne c t)
  | cons w r => simp [glue]
theorem glue_at (c : UInt8) (cur t : List UInt8) : glue cur (splS c (c :: t)) = [cur] ++ glue [] (splS c t) := by
  rw [splS, if_pos rfl, glue_nil (spl_ne c t)]
  simp [glue]
theorem run_cut1 (l : List UInt8) (k : Nat) (h : k < l.length) (W : World) : (Instr.slice 9 (.string ⟨l.toArray⟩) (some (.int .i64 k)) (some (.int .i64 ((k : Int) + 1))) none).run Tryz.prog W = .ok (.string ⟨#[l[k]]⟩) W := by
  have hs : (⟨l.toArray⟩ : ByteArray).size = l.length := by show l.toArray.size = _; simp
  rw [run_slice_string (P := Tryz.prog) W 9 ⟨l.toArray⟩ .i64 .i64 (k : Int) ((k : Int) + 1) Tryz.underlying9 (by omega) (by omega) (by rw [hs]; omega)]
  refine congrArg (fun b : ByteArray => Result.ok (Value.string b) W) ?_
  apply ByteArray.ext
  apply Array.ext'
  have e1 : ((k : Int) + 1).toNat = k + 1 := by omega
  have e2 : (k : Int).toNat = k := by omega
  rw [e1, e2]
  simp
  rw [List.drop_eq_getElem_cons h]
  rfl
theorem str_news (w : World) (T : TypeId) (x : Value) : ∀ j u, [x][j]? = some u → (w.alloc (.cells #[x] T)).cell? ((⟨w.heap.size, 0, none⟩ : Addr).add j) = some u := by
  intro j u hj
  match j, hj with
  | 0, hj => simp at hj; subst hj; simp [Addr.add]
set_option maxRecDepth 100000 in
set_option maxHeartbeats 8000000 in
theorem refSplit_any (c : UInt8) (l : List UInt8) (w : World) (hl : l.length ≤ 100000) : Calls Tryz.prog 63 #[.string ⟨l.toArray⟩, .int .u8 (c.toNat : Nat)] w fun e w' => (∃ v, e = .returned v ∧ OwnT w w' v (splS c l)) ∧ Below w.heap.size w w' := by
  obtain ⟨i0, hi0, hz0, hz1, hz2⟩ := info_parts info_str
  have hsz : (⟨l.toArray⟩ : ByteArray).size = l.length := by show l.toArray.size = _; simp
  have hst0 : Hid ((0 ≤ l.length → splS c l = [] ++ glue [] (splS c (l.drop 0))) ∧ (0 = l.length + 1 → splS c l = [])) := Lib.hid ⟨fun _ => by rw [List.drop_zero, glue_nil (spl_ne c l)]; rfl, fun h => by omega⟩
  have h00 := Lib.hid (OwnT.nil w w)
  go_enter Tryz.func63, Tryz.ntmps63
  go_wp2
  go_loopw [5, 6, 7] (fun v pv iv wx => ∃ (k : Nat) (ws : List (List UInt8)) (cur : List UInt8), pv = .string ⟨cur.toArray⟩ ∧ iv = .int .i64 k ∧ k ≤ l.length + 1 ∧ Hid (ws.length ≤ k ∧ cur.length ≤ k) ∧ Hid (OwnT w wx v ws) ∧ Hid ((k ≤ l.length → splS c l = ws ++ glue cur (splS c (l.drop k))) ∧ (k = l.length + 1 → splS c l = ws)) ∧ Hid (Below w.heap.size w wx)) (fun _ _ iv _ => l.length + 1 - (intOf iv).toNat)
  case atStart => exact ⟨0, [], [], rfl, rfl, by omega, Lib.hid ⟨by simp, by simp⟩, h00, hst0, Lib.hid (xrefl w)⟩
  case round =>
    clear h00 hst0
    obtain ⟨k, ws, cur, rfl, rfl, hk, hwl, hown, hst, hb⟩ := hrel
    obtain ⟨hwl2, hcl2⟩ := hwl.out
    have hsb : w.heap.size ≤ (wr.alloc (.cells #[.string ⟨cur.toArray⟩] 9)).heap.size := by rw [World.size_alloc]; have := hb.out.size; omega
    by_cases hlt : k < l.length
    · have hltI : (k : Int) < l.length := by omega
      have hleI : (k : Int) ≤ l.length := by omega
      have hix := fun W => run_at_str l k hlt W
      have hcut := fun W => run_cut1 l k hlt W
      have hs1 := hst.out.1 (by omega)
      rw [List.drop_eq_getElem_cons hlt] at hs1
      generalize l[k] = x at *
      by_cases hx : x = c
      · subst hx
        rw [glue_at, ← List.append_assoc] at hs1
        replace hs1 := Lib.hid hs1
        clear hcut hst
        go_wp2_with (at_builtin; refine wpList_append_blkV (wr.alloc (.cells #[.string ⟨cur.toArray⟩] 9)) rfl _ _ 71 rfl w.heap.size 9 i0 (.string ⟨#[]⟩) 1 16 Tryz.underlying71 hi0 hz0 hz1 hz2 rfl (by decide) _ ws.length (ws.map sV) rfl (hown.out.alloc _) ⟨wr.heap.size, 0, none⟩ 1 1 [.string ⟨cur.toArray⟩] rfl rfl (str_news wr 9 _) (by simp [Value.oneCell']) (by unfold maxLen; omega) (by omega) hsb ?_; intro v3 w3 ho3 hg3 _; have hb3 := Lib.hid ((xalloc hb.out _).grown hg3 hsb (fun j hj => (hown.out.lt j hj).1)); replace ho3 := Lib.hid ho3; clear hg3)
        refine ⟨⟨k + 1, ws ++ [cur], [], rfl, by go_num, by omega, Lib.hid ⟨by simp; omega, by simp⟩, Lib.hid ?_, Lib.hid ⟨fun _ => hs1.out, fun h => by omega⟩, hb3⟩, by simp [intOf] <;> omega⟩
        unfold OwnT
        rw [List.length_append, List.map_append]
        exact ho3.out
      · rw [glue_in c x cur _ hx] at hs1
        have hne : ((x.toNat : Int) == (c.toNat : Int)) = false := by
          rw [beq_eq_false_iff_ne]; intro e; exact hx (UInt8.toNat_inj.1 (by omega))
        have hne2 : ¬ (x.toNat : Int) = (c.toNat : Int) := fun e => hx (UInt8.toNat_inj.1 (by omega))
        obtain ⟨cur2, hc2⟩ : ∃ cur2, cur2 = cur ++ [x] := ⟨_, rfl⟩
        have e2 : (⟨cur.toArray⟩ : ByteArray) ++ ⟨#[x]⟩ = ⟨cur2.toArray⟩ := by rw [hc2]; exact str_add cur [x]
        have hc3 : cur2.length ≤ k + 1 := by rw [hc2]; simp; omega
        rw [← hc2] at hs1
        generalize x.toNat = xn at *
        replace hs1 := Lib.hid hs1
        clear hst hc2
        go_wp2
        refine ⟨⟨k + 1, ws, cur2, rfl, by go_num, by omega, Lib.hid ⟨by omega, by omega⟩, hown, Lib.hid ⟨fun _ => hs1.out, fun h => by omega⟩, hb⟩, by simp [intOf] <;> omega⟩
    · by_cases hkl : k = l.length
      · subst hkl
        have hs1 := hst.out.1 (by omega)
        rw [List.drop_length, splS, glue, List.append_nil] at hs1
        replace hs1 := Lib.hid hs1
        clear hst
        go_wp2_with (at_builtin; refine wpList_append_blkV (wr.alloc (.cells #[.string ⟨cur.toArray⟩] 9)) rfl _ _ 71 rfl w.heap.size 9 i0 (.string ⟨#[]⟩) 1 16 Tryz.underlying71 hi0 hz0 hz1 hz2 rfl (by decide) _ ws.length (ws.map sV) rfl (hown.out.alloc _) ⟨wr.heap.size, 0, none⟩ 1 1 [.string ⟨cur.toArray⟩] rfl rfl (str_news wr 9 _) (by simp [Value.oneCell']) (by unfold maxLen; omega) (by omega) hsb ?_; intro v3 w3 ho3 hg3 _; have hb3 := Lib.hid ((xalloc hb.out _).grown hg3 hsb (fun j hj => (hown.out.lt j hj).1)); replace ho3 := Lib.hid ho3; clear hg3)
        refine ⟨⟨l.length + 1, ws ++ [cur], [], rfl, by go_num, by omega, Lib.hid ⟨by simp; omega, by simp⟩, Lib.hid ?_, Lib.hid ⟨fun h => by omega, fun _ => hs1.out⟩, hb3⟩, by simp [intOf] <;> omega⟩
        unfold OwnT
        rw [List.length_append, List.map_append]
        exact ho3.out
      · have hgt : (l.length : Int) < k := by omega
        have hq := hst.out.2 (by omega)
        clear hst
        replace hq := Lib.hid hq
        go_wp2
        go_ret
        rw [hq.out]
        exact ⟨⟨_, rfl, hown.out⟩, hb.out⟩
end Go.Proofs.YthpallkphamobaaGreatDoor
namespace Go.Proofs.YthpallkphamobaaGreatDoor

/-- What a line adds, tested in the document's order. -/
def lineK (p : PolN) (first : Bool) (l : List (List UInt8)) : Option PolN :=
  match parseP (l.getLastD []) with
  | none => none
  | some x =>
    if ¬ (first = decide (l.headD [] = wDefault)) then none
    else if first = true then (if l.length = 2 then some { p with dflt := x } else none)
    else if l.length < 3 then none
    else match addrF (l.getD 1 []) with
      | none => none
      | some a =>
        if l.headD [] = wClear ∧ l.length = 3 ∧ p.rels = [] then some { p with clears := p.clears ++ [(a, x)] }
        else match numF (l.getD 2 []) with
          | none => none
          | some n => if l.headD [] = wRelease ∧ l.length = 4 then some { p with rels := p.rels ++ [(a, n, x)] } else none
theorem wc_ne : wClear ≠ wDefault := by decide
theorem wr_ne : wRelease ≠ wDefault := by decide
theorem wrc_ne : wRelease ≠ wClear := by decide
theorem lineK_eq (p : PolN) (first : Bool) (l : List (List UInt8)) (h : l ≠ []) : lineF p first l = lineK p first l := by
  rcases l with _ | ⟨w, _ | ⟨x, _ | ⟨y, _ | ⟨z, _ | ⟨u, r⟩⟩⟩⟩⟩
  · exact absurd rfl h
  · unfold lineK
    cases first <;> simp only [lineF]
    · cases parseP ([w].getLastD []) with
      | none => rfl
      | some q => simp
    · cases parseP ([w].getLastD []) with
      | none => rfl
      | some q => simp
  · unfold lineK
    rw [show ([w, x] : List (List UInt8)).getLastD [] = x from rfl]
    cases first <;> simp only [lineF]
    · cases parseP x with
      | none => rfl
      | some q => simp
    · cases parseP x with
      | none => simp
      | some q => by_cases hw : w = wDefault <;> simp [hw]
  · unfold lineK
    rw [show ([w, x, y] : List (List UInt8)).getLastD [] = y from rfl]
    cases first <;> simp only [lineF]
    · cases parseP y with
      | none => cases addrF x <;> simp
      | some q =>
        cases ha : addrF x with
        | none => simp [ha]
        | some a =>
          by_cases hw : w = wClear ∧ p.rels = []
          · simp [hw, wc_ne, ha]
          · rw [if_neg hw]
            by_cases hd : w = wDefault
            · simp [hd]
            · have : ¬ (w = wClear ∧ 3 = 3 ∧ p.rels = []) := fun h => hw ⟨h.1, h.2.2⟩
              cases hn : numF y <;> simp [hd, ha, hw, hn]
    · cases parseP y with
      | none => rfl
      | some q => by_cases hw : w = wDefault <;> simp [hw]
  · unfold lineK
    rw [show ([w, x, y, z] : List (List UInt8)).getLastD [] = z from rfl]
    cases first <;> simp only [lineF]
    · cases parseP z with
      | none => cases addrF x <;> cases numF y <;> simp
      | some q =>
        cases ha : addrF x with
        | none => simp [ha]
        | some a =>
          cases hn : numF y with
          | none => simp [ha, hn]
          | some n =>
            by_cases hw : w = wRelease
            · subst hw; simp [ha, hn, wr_ne]
            · by_cases hd : w = wDefault <;> simp [hw, hd, ha, hn, wr_ne.symm]
    · cases parseP z with
      | none => rfl
      | some q => by_cases hw : w = wDefault <;> simp [hw]
  · unfold lineK
    generalize (w :: x :: y :: z :: u :: r).getLastD [] = e
    cases first <;> simp only [lineF]
    · cases parseP e with
      | none => rfl
      | some q =>
        cases ha : addrF x with
        | none => simp [ha]
        | some a =>
          cases hn : numF y with
          | none => simp [ha, hn]
          | some n => simp [ha, hn]
    · cases parseP e with
      | none => rfl
      | some q => simp
end Go.Proofs.YthpallkphamobaaGreatDoor
