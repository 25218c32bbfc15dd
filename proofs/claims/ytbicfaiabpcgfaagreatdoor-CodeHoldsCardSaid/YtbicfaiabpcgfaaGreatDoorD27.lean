/- Texts of this claim, merged; no condition. -/
import Derived.Test.YtbicfaiabpcgfaaGreatDoorD26
import Derived.Test.YtbicfaiabpcgfaaGreatDoorD08
set_option linter.all false
namespace Go.Proofs.YtbicfaiabpcgfaaGreatDoor
open Go.RowKit Go.Shelf
attribute [local go_sem] Oper.semAt_some

/-! Plain: where the next op is; which marks are left. -/
def nxK (cs : List Nat) : Nat → Nat
  | 0 => 0
  | k + 1 => nxN cs ((opsL cs).getD k 0)
theorem nxK_at {cs : List Nat} : ∀ {k : Nat} (h : k < (opsL cs).length), (opsL cs)[k] = nxK cs k
  | 0, h => by
    have hc : 0 < cs.length := by have := opsL_len cs; omega
    have e : opsL cs = 0 :: opsA cs (nxN cs 0) := opsA_lt hc
    simp only [e, List.getElem_cons_zero]
    rfl
  | k + 1, h => by
    rw [(opsL_next h).1, nxK, getD_lt _ (by omega : k < (opsL cs).length)]
theorem nxK_succ {cs : List Nat} {k : Nat} (h : k < (opsL cs).length) : nxK cs (k + 1) = (opsL cs)[k] + 1 + szN (byN cs (opsL cs)[k]) := by
  rw [nxK, getD_lt _ h]
  unfold nxN; omega
theorem nxK_end (cs : List Nat) : cs.length ≤ nxK cs (opsL cs).length := by
  cases hl : (opsL cs).length with
  | zero =>
    rcases Nat.eq_zero_or_pos cs.length with h | h
    · omega
    · have e : opsL cs = 0 :: opsA cs (nxN cs 0) := opsA_lt h
      rw [e] at hl; cases hl
  | succ k =>
    have := opsL_last (cs := cs) (k := k) hl.symm
    rw [nxK, getD_lt _ (by omega : k < (opsL cs).length)]
    exact this
theorem nxK_le (cs : List Nat) (hok : ∀ b ∈ cs, b < 256) {k : Nat} (h : k ≤ (opsL cs).length) : nxK cs k ≤ cs.length + 40 := by
  cases k with
  | zero => simp [nxK]
  | succ k =>
    rw [nxK_succ (by omega)]
    have h1 := opsL_lt (List.getElem_mem (show k < (opsL cs).length by omega))
    have h2 := szN_le (byN cs (opsL cs)[k])
    omega
def mkFrom (cs : List Nat) (k : Nat) : List Nat := ((opsL cs).drop k).filter fun i => byN cs i == 91
theorem mkFrom_end (cs : List Nat) : mkFrom cs (opsL cs).length = [] := by unfold mkFrom; rw [List.drop_length]; rfl
theorem sl_nodup {l : List Nat} (h : SL l) : l.Nodup := h.imp fun h => by omega
theorem mkFrom_mem {cs : List Nat} {k : Nat} (h : k < (opsL cs).length) : (opsL cs)[k] ∈ mkFrom cs k ↔ byN cs (opsL cs)[k] = 91 := by
  unfold mkFrom
  rw [List.mem_filter]
  exact ⟨fun h2 => by simpa using h2.2, fun h2 => ⟨by rw [List.drop_eq_getElem_cons h]; exact List.mem_cons_self, by simpa using h2⟩⟩
theorem mkFrom_succ {cs : List Nat} {k : Nat} (h : k < (opsL cs).length) : (mkFrom cs k).filter (fun x => decide (x ≠ (opsL cs)[k])) = mkFrom cs (k + 1) := by
  unfold mkFrom
  rw [List.filter_filter, List.drop_eq_getElem_cons h]
  have hnd : (opsL cs)[k] ∉ (opsL cs).drop (k + 1) := by
    have h1 := sl_nodup (opsL_sl cs)
    rw [← List.take_append_drop k (opsL cs), List.nodup_append] at h1
    have h2 := h1.2.1
    rw [List.drop_eq_getElem_cons h, List.nodup_cons] at h2
    exact h2.1
  rw [List.filter_cons]
  simp only [ne_eq, not_true_eq_false, decide_false, Bool.false_and, Bool.false_eq_true, if_false]
  refine List.filter_congr fun x hx => ?_
  have : x ≠ (opsL cs)[k] := fun e => hnd (e ▸ hx)
  simp [this]
theorem plus_take {l : List Nat} (h : SL l) {i : Nat} (hi : i < l.length) : plusK (l.take i) l[i] = l.take (i + 1) := by
  unfold plusK
  rw [if_neg, List.take_succ_eq_append_getElem hi]
  intro hm
  obtain ⟨j, hj, e⟩ := List.getElem_of_mem hm
  rw [List.length_take] at hj
  rw [List.getElem_take] at e
  have h1 := (List.getElem_inj (h₀ := (show j < l.length by omega)) (h₁ := hi) (sl_nodup h)).1 e
  omega
theorem ints_only {O : Nat → Prop} {w w' : World} {a : Option Addr} {c : Nat} {l : List Nat} (h : IntsAt w a c l) (ho : Only O w w') (hO : ∀ x, a = some x → ¬ O x.block) : IntsAt w' a c l :=
  ⟨fun i hi => by
    obtain ⟨b, o, e, hc⟩ := h.row i hi
    exact ⟨b, o, e, ho.cell hc (show ¬ O b from hO ⟨b, o, none⟩ e)⟩, h.nil⟩

/-! Memory: the result's box, the next place's, the map, its box. -/
structure HoS (B : Nat) (n : Nat) (K : List Nat) (W : World) : Prop where
  br : Box W B (.bool false) 4
  bn : Box W (B + 1) (.int .i64 n) 3
  st : OneA W (B + 2) K
  bk : Box W (B + 3) (.map (some (B + 2))) 48
def HoF (B : Nat) (n : Nat) (K : List Nat) (S : Nat → Prop) (W : World) : Prop := (∀ j, S j ↔ B ≤ j ∧ j < B + 4) ∧ HoS B n K W
theorem HoS.below {B n : Nat} {K : List Nat} {W W' : World} (h : HoS B n K W) (hb : Below W.heap.size W W') : HoS B n K W' := ⟨h.br.below hb, h.bn.below hb, h.st.below hb, h.bk.below hb⟩
theorem HoS.fac {B n : Nat} {K : List Nat} {S : Nat → Prop} : Fac S (HoF B n K S) :=
  ⟨fun W W' ⟨h0, h⟩ hz hs => by
    have l := h.bk.lt
    have k : ∀ j, B ≤ j → j < B + 4 → W'.heap[j]? = W.heap[j]? := fun j h1 h2 => hs j ((h0 j).2 ⟨h1, h2⟩) (by omega)
    exact ⟨h0, (k _ (by omega) (by omega)).trans h.br, (k _ (by omega) (by omega)).trans h.bn, h.st.same (k _ (by omega) (by omega)), (k _ (by omega) (by omega)).trans h.bk⟩,
   fun W ⟨h0, h⟩ j hj => by have := (h0 j).1 hj; have := h.bk.lt; omega⟩
theorem HoS.next {B n n2 : Nat} {K K2 : List Nat} {S : Nat → Prop} {W2 W3 W5 W6 : World} (h0 : ∀ j, S j ↔ B ≤ j ∧ j < B + 4) (h : HoS B n K W3) (h23 : Below W2.heap.size W2 W3) (hs5 : OneA W5 (B + 2) K2) (ho5 : Only (· = B + 2) W3 W5) (ho6 : Only (· = B + 1) W5 W6) (hb6 : Box W6 (B + 1) (.int .i64 n2) 3) :
    Only S W2 W6 ∧ ∃ S', (∀ j, S' j → S j ∨ W2.heap.size ≤ j) ∧ HoF B n2 K2 S' W6 := by
  refine ⟨(Below.only h23).trans ((ho5.mono fun j _ e => (h0 j).2 (by omega)).trans (ho6.mono fun j _ e => (h0 j).2 (by omega))), S, fun j hj => .inl hj, h0, ?_⟩
  exact ⟨(h.br.only ho5 (by omega)).only ho6 (by omega), hb6, hs5.only ho6 (by omega), (h.bk.only ho5 (by omega)).only ho6 (by omega)⟩
set_option maxRecDepth 100000 in
set_option maxHeartbeats 16000000 in
theorem codeHolds_go (cs : List Nat) (a : Option Addr) (c : Nat) (w : World) (hC : CodeAt w a c cs) (hl : cs.length ≤ 300) (hT : Tab w) :
    Calls Tryz.prog 7 #[.slice a cs.length c] w (Yes w) := by
  have hlb : ¬ ((cs.length : Int) > 300) := by omega
  have hwk := Lib.hid fun W (h : Below w.heap.size w W) => works10_at W (hT.below h)
  have hmk := Lib.hid fun W (h : Below w.heap.size w W) => marks_any cs a c W (hC.below h)
  have hops := Lib.hid fun W => ops_any a cs.length c W
  have hmm : ∀ w, (Instr.makeMap 48 none).run Tryz.prog w = .ok (.map (some w.heap.size)) (w.alloc (mapI .i64 [])) := fun _ => rfl
  have hnil := fun k W => run_eql_fn_nil (P := Tryz.prog) 36 (by kernel_rfl) (.func 33) #[] #[.pointer (some ⟨k, 0, none⟩)] W
  have hzi : ∀ w, (zeroValue 3).run Tryz.prog w = .ok (.int .i64 0) w := fun _ => by kernel_rfl
  have hml := marksL_sl cs
  have hmn : (marksL cs).length ≤ 300 := by
    have h1 := List.length_filter_le (fun i => byN cs i == 91) (opsL cs)
    have h2 := opsL_len cs
    unfold marksL; omega
  have h3 : ∀ x ∈ marksL cs, x < cs.length := fun x hx => (marksL_lt hx).1
  have hS0 : HoS w.heap.size 0 [] ((((w.alloc (.cells #[.bool false] 4)).alloc (.cells #[.int .i64 0] 3)).alloc (mapI .i64 [])).alloc (.cells #[.map (some (w.heap.size + 2))] 48)) := by
    have q1 := Box.new w (.bool false) 4
    have q2 := Box.new (w.alloc (.cells #[.bool false] 4)) (.int .i64 0) 3
    have q3 := OneA.new ((w.alloc (.cells #[.bool false] 4)).alloc (.cells #[.int .i64 0] 3))
    have q4 := Box.new (((w.alloc (.cells #[.bool false] 4)).alloc (.cells #[.int .i64 0] 3)).alloc (mapI .i64 [])) (.map (some (w.heap.size + 2))) 48
    simp only [World.size_alloc] at q2 q3 q4
    exact ⟨q1.below (xalloc (xalloc (xalloc (xrefl _) _) _) _), q2.below (xalloc (xalloc (xrefl _) _) _), q3.below (xalloc (xrefl _) _), q4⟩
  have hb0 : Below w.heap.size w ((((w.alloc (.cells #[.bool false] 4)).alloc (.cells #[.int .i64 0] 3)).alloc (mapI .i64 [])).alloc (.cells #[.map (some (w.heap.size + 2))] 48)) := xalloc (xalloc (xalloc (xalloc (xrefl w) _) _) _) _
  have hs0 : ((((w.alloc (.cells #[.bool false] 4)).alloc (.cells #[.int .i64 0] 3)).alloc (mapI .i64 [])).alloc (.cells #[.map (some (w.heap.size + 2))] 48)).heap.size = w.heap.size + 4 := by simp
  replace hS0 := Lib.hid hS0
  replace hb0 := Lib.hid hb0
  replace hs0 := Lib.hid hs0
  replace h3 := Lib.hid h3
  refine (callsIn_wide (n := 0)).1 ?_
  refine callsIn_of_wp_marks Tryz.func7 rfl trivial ?_ rfl
  simp only [Tryz.ntmps7, List.size_toArray, List.length_cons, List.length_nil, Nat.reduceAdd, Nat.reduceSub, Array.replicate_succ, Array.replicate_zero, List.push_toArray, List.append_toArray, List.nil_append, List.cons_append]
  refine wpIn_wide.2 ?_
  go_wp2_with (first
    | (go_at_call 20; refine (hmk.out _ hb0.out).mono ?_; rintro e w4 ⟨⟨v, rfl, hv⟩, hb4⟩; obtain ⟨aM, cM, rfl, hM, hMb⟩ := hv.at; rw [hs0.out] at hMb; have hS4 := Lib.hid (hS0.out.below hb4); replace hb4 := Lib.hid (xtrans hb0.out hb4); replace hM := Lib.hid hM; replace hMb := Lib.hid hMb; clear hv)
    | fail)
  go_loopw [6] (fun iv wx => ∃ i : Nat, iv = .int .i64 i ∧ i ≤ (marksL cs).length ∧ Hid (HoS w.heap.size 0 ((marksL cs).take i) wx) ∧ Hid (IntsAt wx aM cM (marksL cs)) ∧ Hid (Below w.heap.size w wx)) (fun iv _ => (marksL cs).length - (intOf iv).toNat)
  case atStart => exact ⟨0, rfl, by omega, hS4, hM, hb4⟩
  case round =>
    clear hS4 hM hb4
    obtain ⟨i, rfl, hi, hS, hM, hb⟩ := hrel
    have cK := hS.out.bk.cell
    by_cases hlt : i < (marksL cs).length
    · have hltI : (i : Int) < (marksL cs).length := by omega
      obtain ⟨g, o, rfl, hc⟩ := hM.out.get hlt
      have hpt := Lib.hid (plus_take hml hlt)
      have hx := h3.out _ (List.getElem_mem hlt)
      have hgb : w.heap.size + 4 ≤ g := hMb.out _ rfl
      have hwi : IntKind.i64.wrap ((i : Int) + 1) = (i : Int) + 1 := by simp [IntKind.wrap, IntKind.bits, IntKind.signed]; omega
      have hst := Lib.hid hS.out.st
      generalize (marksL cs)[i] = x at *
      have hcx := Lib.hid hc
      replace cK := Lib.hid cK
      clear hc
      go_wp2
      refine' wp_region_growL 5 [fixd (.map (some (w.heap.size + 2))), fixd (.slice (some ⟨g, o, none⟩) (marksL cs).length cM), fixd (.int .i64 i), fixd (.pointer (some ⟨g, o + i, none⟩)), fixd (.int .i64 x)] (by kernel_rfl) (by kernel_rfl) ?_
      simp only [List.take_succ_cons, List.take_zero, List.drop_succ_cons, List.drop_zero]
      try simp only [Act.put, List.setIfInBounds_toArray, List.set_cons_succ, List.set_cons_zero, List.nil_append, List.cons_append]
      apply wpGrowV_fix (.map (some (w.heap.size + 2))) rfl rfl
      · intro W hb hF
        have c := cbel hb cK.out; go_simp
        first | exact xrefl W | exact ⟨rfl, xrefl W⟩
      try simp only [Act.put, List.setIfInBounds_toArray, List.set_cons_succ, List.set_cons_zero, List.nil_append, List.cons_append]
      apply wpGrowV_fix (.slice (some ⟨g, o, none⟩) (marksL cs).length cM) rfl rfl
      · intro W hb hF
        go_simp
        first | exact xrefl W | exact ⟨rfl, xrefl W⟩
      try simp only [Act.put, List.setIfInBounds_toArray, List.set_cons_succ, List.set_cons_zero, List.nil_append, List.cons_append]
      apply wpGrowV_fix (.int .i64 i) rfl rfl
      · intro W hb hF
        go_simp
        first | exact xrefl W | exact ⟨rfl, xrefl W⟩
      try simp only [Act.put, List.setIfInBounds_toArray, List.set_cons_succ, List.set_cons_zero, List.nil_append, List.cons_append]
      apply wpGrowV_fix (.pointer (some ⟨g, o + i, none⟩)) rfl rfl
      · intro W hb hF
        go_simp
        first | exact xrefl W | exact ⟨rfl, xrefl W⟩
      try simp only [Act.put, List.setIfInBounds_toArray, List.set_cons_succ, List.set_cons_zero, List.nil_append, List.cons_append]
      apply wpGrowV_fix (.int .i64 x) rfl rfl
      · intro W hb hF
        have c := cbel hb hcx.out; go_simp
        first | exact xrefl W | exact ⟨rfl, xrefl W⟩
      try simp only [Act.put, List.setIfInBounds_toArray, List.set_cons_succ, List.set_cons_zero, List.nil_append, List.cons_append]
      intro W hbW _
      replace hS := Lib.hid (hS.out.below hbW)
      replace hst := Lib.hid hS.out.st
      replace hM := Lib.hid (hM.out.below hbW)
      replace hb := Lib.hid (xtrans hb.out hbW)
      go_wp2_with (refine wpList_putO rfl 48 3 3 _ _ _ rfl (by kernel_rfl) (by kernel_rfl) (w.heap.size + 2) x ((marksL cs).take i) rfl rfl rfl hst.out ?_; intro w8 hs8 ho8; rw [hpt.out] at hs8; have hS8 : Hid (HoS w.heap.size 0 ((marksL cs).take (i + 1)) w8) := Lib.hid ⟨hS.out.br.only ho8 (by omega), hS.out.bn.only ho8 (by omega), hs8, hS.out.bk.only ho8 (by omega)⟩; have hM8 := Lib.hid (ints_only hM.out ho8 (fun y e => by cases e; show ¬ g = w.heap.size + 2; omega)); have hb8 := Lib.hid (ho8.below hb.out hb.out.size (by rintro k rfl; omega)); clear ho8 hs8)
      exact ⟨⟨i + 1, by first | rfl | simp, by omega, hS8, hM8, hb8⟩, by simp [intOf]; omega⟩
    · obtain rfl : i = (marksL cs).length := by omega
      rw [List.take_length] at hS
      clear hlt
      go_wp2_with (go_at_call 14; refine (hops.out _).mono ?_; rintro e w' ⟨rfl, rfl⟩)
      have hx1 : Box (wr.alloc (Obj.cells #[.slice a cs.length c] 32)) wr.heap.size (.slice a cs.length c) 32 := Box.new wr _ _
      have hb1 : Below w.heap.size w (wr.alloc (Obj.cells #[.slice a cs.length c] 32)) := xalloc hb.out _
      have hS1 : HoF w.heap.size (nxK cs 0) (mkFrom cs 0) (fun j => w.heap.size ≤ j ∧ j < w.heap.size + 4) (wr.alloc (Obj.cells #[.slice a cs.length c] 32)) := ⟨fun _ => Iff.rfl, hS.out.below (xalloc (xrefl _) _)⟩
      have hwr4 : w.heap.size + 4 ≤ wr.heap.size := by have := hS.out.bk.lt; omega
      have hs1 : wr.heap.size < (wr.alloc (Obj.cells #[.slice a cs.length c] 32)).heap.size := by rw [World.size_alloc]; omega
      have hold := fun k (h0 : cs ≠ [] ∧ ∃ y, a = some y ∧ y.block = k) => codeRd_old (w' := w) (bx := 0) hC h0.2 h0.1
      have hsz1 := hb1.size
      generalize hbx : wr.heap.size = bx at *
      generalize wr.alloc (Obj.cells #[.slice a cs.length c] 32) = w1 at *
      clear hS hM hb cK hMb hbx hnil hops hmk
      refine (wpIn_wide (n := 0)).1 ?_
      refine wp_rangeL (w0 := w) (gf := 33) (lb := #[.pointer (some ⟨bx, 0, none⟩)]) rfl (enters_of Tryz.func33 (by kernel_rfl) rfl) (encs := encOp cs) (Rd := codeRd bx a cs) (opsL cs)
        (fun k hk => by
          rcases hk with rfl | hk
          · omega
          · have := hold k hk; omega) hb1 (fun W hW => ops_seq cs _ a c W (hx1.below hW) ((hC.below hb1).below hW)) (fun x => rfl) (fun k S W => HoF w.heap.size (nxK cs k) (mkFrom cs k) S W) (fun _ _ _ _ => False) (fun k S => HoS.fac) (fun _ _ _ => ⟨fun _ _ h _ _ => h, fun _ h => h.elim⟩) (fun j => w.heap.size ≤ j ∧ j < w.heap.size + 4)
        (fun j hj => ⟨hj.1, fun hr => by
          rcases hr with rfl | hr
          · omega
          · have := hold j hr; omega⟩) hS1 ?round ?done ?stop
      case round =>
        intro l0 k hk W
        unfold encOp
        dsimp only
        have hat := nxK_at hk
        have hsc := nxK_succ hk
        have hmm := mkFrom_mem hk
        have hms := mkFrom_succ hk
        have hnl := nxK_le cs hC.ok (Nat.le_of_lt hk)
        have hnl2 := nxK_le cs hC.ok hk
        have hxl := opsL_lt (List.getElem_mem hk)
        generalize (opsL cs)[k] = x at *
        have h256 : byN cs x < 256 := by
          unfold byN
          rw [getD_lt _ hxl]
          exact hC.ok _ (List.getElem_mem hxl)
        have hI := Lib.hid fun W => info_any (byN cs x) W h256
        have hsz := info_size (byN cs x) h256
        have hbyI : (byN cs x : Int) ≤ 255 := by omega
        have hz32 := szN_le (byN cs x)
        have hw1 : IntKind.i64.wrap ((x : Int) + 1) = (x : Int) + 1 := by simp [IntKind.wrap, IntKind.bits, IntKind.signed]; omega
        have hw2 : IntKind.i64.wrap ((x : Int) + 1 + (szN (byN cs x) : Int)) = (x : Int) + 1 + (szN (byN cs x) : Int) := by simp [IntKind.wrap, IntKind.bits, IntKind.signed]; omega
        have hsn : namedN (byN cs x) = false → szN (byN cs x) = 0 := fun h => by
          rcases Nat.eq_zero_or_pos (szN (byN cs x)) with h1 | h1
          · exact h1
          · rw [size_named _ h256 h1] at h; cases h
        unfold infoV at hI
        rw [hsz] at hI
        generalize (infoN (byN cs x)).name = nm at *
        generalize (infoN (byN cs x)).ins = iN at *
        generalize (infoN (byN cs x)).outs = oN at *
        generalize (infoN (byN cs x)).gas = gN at *
        generalize (infoN (byN cs x)).quiet = qN at *
        generalize szN (byN cs x) = z at *
        replace hat := Lib.hid hat
        replace hsc := Lib.hid hsc
        replace hms := Lib.hid hms
        replace hmm := Lib.hid hmm
        clear hsz
        gi_wp2
        refine ⟨trivial, fun S W2 hb2 hzz _ hSo hS2 => ?_⟩
        obtain ⟨h0, hS⟩ := hS2
        rw [← hat.out] at hS
        clear hat hb2
        by_cases hm9 : byN cs x = 91 <;> cases hN : namedN (byN cs x) <;> rw [hN] at hI hsn
        · have _ := ()
          obtain rfl : z = 0 := hsn rfl
          clear hsn
          have hv : Hid (oneN (decide (x ∈ mkFrom cs k)) = 1) := Lib.hid (by rw [decide_eq_true (hmm.out.2 hm9)]; rfl)
          rw [hm9] at hI ⊢
          change Hid (∀ W, Calls Tryz.prog 9 #[.int .u8 91] W fun e w' => e = .returned (.tuple #[.agg #[.string ⟨nm.toArray⟩, .int .i64 iN, .int .i64 oN, .int .u64 gN, .bool qN, .int .i64 0], .bool false]) ∧ Below W.heap.size W w') at hI
          clear hmm hm9
          replace hS := Lib.hid hS
          replace h0 := Lib.hid h0
          gi_wp2_with (first
            | (refine ⟨trivial, rfl, ?_⟩; gi_at_call 9; refine (CallsIn.inRound l0 (callsIn_wide.2 (hI.out _))).mono ?_; rintro e W3 ⟨rfl, hb3⟩; have hb23 := Lib.hid (xalloc hb3 (.cells #[.string ⟨nm.toArray⟩, .int .i64 iN, .int .i64 oN, .int .u64 gN, .bool qN, .int .i64 0] 25)); have hS3 := Lib.hid (hS.out.below hb23.out); have c5 := Lib.hid ((BlkG.new W3 25 [.string ⟨nm.toArray⟩, .int .i64 iN, .int .i64 oN, .int .u64 gN, .bool qN, .int .i64 0]).cell 5 (by simp)); have cn := hS3.out.bn.cell; have cf := hS3.out.bn.free; have ck := hS3.out.bk.cell; have hst3 := Lib.hid hS3.out.st; have hlt3 : w.heap.size + 3 < W3.heap.size := (by have h1 := hS.out.bk.lt; have h2 := hb3.size; omega); replace hb3 := Lib.hid hb3)
            | (refine wpListIn_lookO (by kernel_rfl) 48 3 3 _ _ rfl (by kernel_rfl) (by kernel_rfl) hzi (w.heap.size + 2) x (mkFrom cs k) rfl rfl hst3.out (1) hv.out ?_)
            | (refine wpListIn_delO rfl 48 3 3 _ _ rfl (by kernel_rfl) (by kernel_rfl) (w.heap.size + 2) x (mkFrom cs k) rfl rfl hst3.out ?_; intro w5 hs5 ho5; rw [hms.out] at hs5; have cn5 := ho5.cell cn (show ¬ w.heap.size + 1 = w.heap.size + 2 by omega); have cf5 := ho5.frozen cn cf (show ¬ w.heap.size + 1 = w.heap.size + 2 by omega); have c55 := ho5.cell c5.out (show ¬ W3.heap.size = w.heap.size + 2 by omega); have hnx := Lib.hid fun W6 n2 (ho6 : Only (· = w.heap.size + 1) w5 W6) (hb6 : Box W6 (w.heap.size + 1) (.int .i64 (n2 : Nat)) 3) => HoS.next h0.out hS3.out hb23.out hs5 ho5 ho6 hb6; have hbx5 := Lib.hid (hS3.out.bn.only ho5 (by omega)); clear hs5 ho5))
          have he : ((nxK cs (k + 1) : Nat) : Int) = (x : Int) + 1 := by rw [hsc.out]; omega
          refine hnx.out _ (nxK cs (k + 1)) ((Only.refl (· = w.heap.size + 1) _).setCell _ _ rfl) ?_
          rw [he]
          exact hbx5.out.set _
        · have _ := ()
          clear hsn
          have hv : Hid (oneN (decide (x ∈ mkFrom cs k)) = 1) := Lib.hid (by rw [decide_eq_true (hmm.out.2 hm9)]; rfl)
          rw [hm9] at hI ⊢
          change Hid (∀ W, Calls Tryz.prog 9 #[.int .u8 91] W fun e w' => e = .returned (.tuple #[.agg #[.string ⟨nm.toArray⟩, .int .i64 iN, .int .i64 oN, .int .u64 gN, .bool qN, .int .i64 z], .bool true]) ∧ Below W.heap.size W w') at hI
          clear hmm hm9
          replace hS := Lib.hid hS
          replace h0 := Lib.hid h0
          gi_wp2_with (first
            | (refine ⟨trivial, rfl, ?_⟩; gi_at_call 9; refine (CallsIn.inRound l0 (callsIn_wide.2 (hI.out _))).mono ?_; rintro e W3 ⟨rfl, hb3⟩; have hb23 := Lib.hid (xalloc hb3 (.cells #[.string ⟨nm.toArray⟩, .int .i64 iN, .int .i64 oN, .int .u64 gN, .bool qN, .int .i64 z] 25)); have hS3 := Lib.hid (hS.out.below hb23.out); have c5 := Lib.hid ((BlkG.new W3 25 [.string ⟨nm.toArray⟩, .int .i64 iN, .int .i64 oN, .int .u64 gN, .bool qN, .int .i64 z]).cell 5 (by simp)); have cn := hS3.out.bn.cell; have cf := hS3.out.bn.free; have ck := hS3.out.bk.cell; have hst3 := Lib.hid hS3.out.st; have hlt3 : w.heap.size + 3 < W3.heap.size := (by have h1 := hS.out.bk.lt; have h2 := hb3.size; omega); replace hb3 := Lib.hid hb3)
            | (refine wpListIn_lookO (by kernel_rfl) 48 3 3 _ _ rfl (by kernel_rfl) (by kernel_rfl) hzi (w.heap.size + 2) x (mkFrom cs k) rfl rfl hst3.out (1) hv.out ?_)
            | (refine wpListIn_delO rfl 48 3 3 _ _ rfl (by kernel_rfl) (by kernel_rfl) (w.heap.size + 2) x (mkFrom cs k) rfl rfl hst3.out ?_; intro w5 hs5 ho5; rw [hms.out] at hs5; have cn5 := ho5.cell cn (show ¬ w.heap.size + 1 = w.heap.size + 2 by omega); have cf5 := ho5.frozen cn cf (show ¬ w.heap.size + 1 = w.heap.size + 2 by omega); have c55 := ho5.cell c5.out (show ¬ W3.heap.size = w.heap.size + 2 by omega); have hnx := Lib.hid fun W6 n2 (ho6 : Only (· = w.heap.size + 1) w5 W6) (hb6 : Box W6 (w.heap.size + 1) (.int .i64 (n2 : Nat)) 3) => HoS.next h0.out hS3.out hb23.out hs5 ho5 ho6 hb6; have hbx5 := Lib.hid (hS3.out.bn.only ho5 (by omega)); clear hs5 ho5))
          have he : ((nxK cs (k + 1) : Nat) : Int) = (x : Int) + 1 + (z : Int) := by rw [hsc.out]; omega
          refine hnx.out _ (nxK cs (k + 1)) (((Only.refl (· = w.heap.size + 1) _).setCell _ _ rfl).setCell _ _ rfl) ?_
          rw [he]
          exact (hbx5.out.set _).set _
        · have _ := ()
          obtain rfl : z = 0 := hsn rfl
          clear hsn
          have hv : Hid (oneN (decide (x ∈ mkFrom cs k)) = 0) := Lib.hid (by rw [decide_eq_false (fun h => hm9 (hmm.out.1 h))]; rfl)
          have hm1 : ((byN cs x : Int) == 91) = false := by simp; omega
          have hm2 : ¬ (byN cs x : Int) = 91 := by omega
          generalize (byN cs x : Int) = y at *
          change Hid (∀ W, Calls Tryz.prog 9 #[.int .u8 y] W fun e w' => e = .returned (.tuple #[.agg #[.string ⟨nm.toArray⟩, .int .i64 iN, .int .i64 oN, .int .u64 gN, .bool qN, .int .i64 0], .bool false]) ∧ Below W.heap.size W w') at hI
          clear hmm hm9
          replace hS := Lib.hid hS
          replace h0 := Lib.hid h0
          gi_wp2_with (first
            | (refine ⟨trivial, rfl, ?_⟩; gi_at_call 9; refine (CallsIn.inRound l0 (callsIn_wide.2 (hI.out _))).mono ?_; rintro e W3 ⟨rfl, hb3⟩; have hb23 := Lib.hid (xalloc hb3 (.cells #[.string ⟨nm.toArray⟩, .int .i64 iN, .int .i64 oN, .int .u64 gN, .bool qN, .int .i64 0] 25)); have hS3 := Lib.hid (hS.out.below hb23.out); have c5 := Lib.hid ((BlkG.new W3 25 [.string ⟨nm.toArray⟩, .int .i64 iN, .int .i64 oN, .int .u64 gN, .bool qN, .int .i64 0]).cell 5 (by simp)); have cn := hS3.out.bn.cell; have cf := hS3.out.bn.free; have ck := hS3.out.bk.cell; have hst3 := Lib.hid hS3.out.st; have hlt3 : w.heap.size + 3 < W3.heap.size := (by have h1 := hS.out.bk.lt; have h2 := hb3.size; omega); replace hb3 := Lib.hid hb3)
            | (refine wpListIn_lookO (by kernel_rfl) 48 3 3 _ _ rfl (by kernel_rfl) (by kernel_rfl) hzi (w.heap.size + 2) x (mkFrom cs k) rfl rfl hst3.out (0) hv.out ?_)
            | (refine wpListIn_delO rfl 48 3 3 _ _ rfl (by kernel_rfl) (by kernel_rfl) (w.heap.size + 2) x (mkFrom cs k) rfl rfl hst3.out ?_; intro w5 hs5 ho5; rw [hms.out] at hs5; have cn5 := ho5.cell cn (show ¬ w.heap.size + 1 = w.heap.size + 2 by omega); have cf5 := ho5.frozen cn cf (show ¬ w.heap.size + 1 = w.heap.size + 2 by omega); have c55 := ho5.cell c5.out (show ¬ W3.heap.size = w.heap.size + 2 by omega); have hnx := Lib.hid fun W6 n2 (ho6 : Only (· = w.heap.size + 1) w5 W6) (hb6 : Box W6 (w.heap.size + 1) (.int .i64 (n2 : Nat)) 3) => HoS.next h0.out hS3.out hb23.out hs5 ho5 ho6 hb6; have hbx5 := Lib.hid (hS3.out.bn.only ho5 (by omega)); clear hs5 ho5))
          have he : ((nxK cs (k + 1) : Nat) : Int) = (x : Int) + 1 := by rw [hsc.out]; omega
          refine hnx.out _ (nxK cs (k + 1)) ((Only.refl (· = w.heap.size + 1) _).setCell _ _ rfl) ?_
          rw [he]
          exact hbx5.out.set _
        · have _ := ()
          clear hsn
          have hv : Hid (oneN (decide (x ∈ mkFrom cs k)) = 0) := Lib.hid (by rw [decide_eq_false (fun h => hm9 (hmm.out.1 h))]; rfl)
          have hm1 : ((byN cs x : Int) == 91) = false := by simp; omega
          have hm2 : ¬ (byN cs x : Int) = 91 := by omega
          generalize (byN cs x : Int) = y at *
          change Hid (∀ W, Calls Tryz.prog 9 #[.int .u8 y] W fun e w' => e = .returned (.tuple #[.agg #[.string ⟨nm.toArray⟩, .int .i64 iN, .int .i64 oN, .int .u64 gN, .bool qN, .int .i64 z], .bool true]) ∧ Below W.heap.size W w') at hI
          clear hmm hm9
          replace hS := Lib.hid hS
          replace h0 := Lib.hid h0
          gi_wp2_with (first
            | (refine ⟨trivial, rfl, ?_⟩; gi_at_call 9; refine (CallsIn.inRound l0 (callsIn_wide.2 (hI.out _))).mono ?_; rintro e W3 ⟨rfl, hb3⟩; have hb23 := Lib.hid (xalloc hb3 (.cells #[.string ⟨nm.toArray⟩, .int .i64 iN, .int .i64 oN, .int .u64 gN, .bool qN, .int .i64 z] 25)); have hS3 := Lib.hid (hS.out.below hb23.out); have c5 := Lib.hid ((BlkG.new W3 25 [.string ⟨nm.toArray⟩, .int .i64 iN, .int .i64 oN, .int .u64 gN, .bool qN, .int .i64 z]).cell 5 (by simp)); have cn := hS3.out.bn.cell; have cf := hS3.out.bn.free; have ck := hS3.out.bk.cell; have hst3 := Lib.hid hS3.out.st; have hlt3 : w.heap.size + 3 < W3.heap.size := (by have h1 := hS.out.bk.lt; have h2 := hb3.size; omega); replace hb3 := Lib.hid hb3)
            | (refine wpListIn_lookO (by kernel_rfl) 48 3 3 _ _ rfl (by kernel_rfl) (by kernel_rfl) hzi (w.heap.size + 2) x (mkFrom cs k) rfl rfl hst3.out (0) hv.out ?_)
            | (refine wpListIn_delO rfl 48 3 3 _ _ rfl (by kernel_rfl) (by kernel_rfl) (w.heap.size + 2) x (mkFrom cs k) rfl rfl hst3.out ?_; intro w5 hs5 ho5; rw [hms.out] at hs5; have cn5 := ho5.cell cn (show ¬ w.heap.size + 1 = w.heap.size + 2 by omega); have cf5 := ho5.frozen cn cf (show ¬ w.heap.size + 1 = w.heap.size + 2 by omega); have c55 := ho5.cell c5.out (show ¬ W3.heap.size = w.heap.size + 2 by omega); have hnx := Lib.hid fun W6 n2 (ho6 : Only (· = w.heap.size + 1) w5 W6) (hb6 : Box W6 (w.heap.size + 1) (.int .i64 (n2 : Nat)) 3) => HoS.next h0.out hS3.out hb23.out hs5 ho5 ho6 hb6; have hbx5 := Lib.hid (hS3.out.bn.only ho5 (by omega)); clear hs5 ho5))
          have he : ((nxK cs (k + 1) : Nat) : Int) = (x : Int) + 1 + (z : Int) := by rw [hsc.out]; omega
          refine hnx.out _ (nxK cs (k + 1)) (((Only.refl (· = w.heap.size + 1) _).setCell _ _ rfl).setCell _ _ rfl) ?_
          rw [he]
          exact (hbx5.out.set _).set _
      case done =>
        intro D S W hD hSD hb _ _ hS2 hK
        obtain ⟨h0, hS⟩ := hS2
        rw [mkFrom_end] at hS
        have hend := nxK_end cs
        have hendI : (cs.length : Int) ≤ (nxK cs (opsL cs).length : Int) := by omega
        generalize nxK cs (opsL cs).length = nE at *
        have cn := hS.bn.cell
        have ck := hS.bk.cell
        have hst := Lib.hid hS.st
        replace hS := Lib.hid hS
        replace hb := Lib.hid hb
        replace hK := Lib.hid hK
        clear h0 hSD
        go_wp2_with (first
          | (refine wpList_lenO (by kernel_rfl) 48 3 3 _ rfl (by kernel_rfl) (w.heap.size + 2) [] rfl hst.out 0 rfl ?_)
          | (go_at_call 8; refine (hwk.out _ hb.out).mono ?_; rintro e W8 ⟨rfl, hb8⟩; have hS8 := hS.out.below hb8; have cr := hS8.br.cell; have fr := hS8.br.free; have hK8 := Lib.hid ((hb8.block D (Array.getElem?_eq_some_iff.1 hK.out).1).trans hK.out); replace hS8 := Lib.hid hS8; have hb9 := Lib.hid (xtrans hb.out hb8); clear hb8))
        have hne : D ≠ w.heap.size := fun e => by
          have h1 := hS8.out.br
          have h2 := hK8.out
          unfold Box at h1
          rw [e, h1] at h2
          cases h2
        have hbE : Below w.heap.size w (W8.setCell ⟨w.heap.size, 0, none⟩ (.bool true)) := hb9.out.setCell (Nat.le_refl _) _
        have hE1 : (W8.setCell ⟨w.heap.size, 0, none⟩ (.bool true)).heap[D]? = some (.deferred (some [])) := (Below.heap_setCell _ ⟨w.heap.size, 0, none⟩ _ D hne).trans hK8.out
        have hE3 := hS8.out.br.set (.bool true)
        generalize W8.setCell ⟨w.heap.size, 0, none⟩ (.bool true) = WE at hbE hE1 hE3 ⊢
        have hput := (Only.refl (· = D) WE).putObj D (.deferred none) rfl
        refine ⟨by simp [Act.put], .inl ⟨_, _, rfl, run_takeDeferred hE1, ?_⟩⟩
        exact ⟨_, results_bool rfl _ _ w.heap.size (.bool true) rfl (hE3.only hput (by omega)).cell, rfl, hput.below hbE hbE.size (by rintro i rfl; omega)⟩
      case stop =>
        intro D k c S W _ _ _ _ _ _ h
        exact h.elim
set_option maxRecDepth 100000 in
set_option maxHeartbeats 4000000 in
theorem codeHolds_walk (a : Option Addr) (c : Nat) (zs : List Int) (w : World) (hl : zs.length ≤ c ∧ c ≤ 9223372036854775807) (hr : RowAt .u8 w a zs) (ha : a = none → c = 0) (hw : ∀ z ∈ zs, (Lit.int .u8 z).wf = true) (hT : Tab w) :
    Calls Tryz.prog 7 #[.slice a zs.length c] w (Yes w) := by
  by_cases h : (zs.length : Int) > 300
  · have hwk := Lib.hid fun W (h : Below w.heap.size w W) => works10_at W (hT.below h)
    have hb0 := Lib.hid (xalloc (xrefl w) (.cells #[.bool false] 4))
    have br1 : Hid (Box (w.alloc (.cells #[.bool false] 4)) w.heap.size (.bool false) 4) := Lib.hid (Box.new w _ _)
    clear hr ha hw hl
    refine (callsIn_wide (n := 0)).1 ?_
    refine callsIn_of_wp_marks Tryz.func7 rfl trivial ?_ rfl
    simp only [Tryz.ntmps7, List.size_toArray, List.length_cons, List.length_nil, Nat.reduceAdd, Nat.reduceSub, Array.replicate_succ, Array.replicate_zero, List.push_toArray, List.append_toArray, List.nil_append, List.cons_append]
    refine wpIn_wide.2 ?_
    go_wp2_with (go_at_call 8; refine (hwk.out _ hb0.out).mono ?_; rintro e w3 ⟨rfl, b3⟩; have hB := br1.out.below b3; have cr := hB.cell; have fr := hB.free; replace hB := Lib.hid hB)
    have hbE : Below w.heap.size w (w3.setCell ⟨w.heap.size, 0, none⟩ (.bool true)) := (xtrans hb0.out b3).setCell (Nat.le_refl _) _
    have hE3 := hB.out.set (.bool true)
    exact ⟨_, results_bool rfl _ _ w.heap.size (.bool true) rfl hE3.cell, rfl, hbE⟩
  · obtain ⟨cs, rfl, hC⟩ := code_of hl hr ha hw (by omega)
    rw [natI_len] at h ⊢
    exact codeHolds_go cs a c w hC (by omega) hT
end Go.Proofs.YtbicfaiabpcgfaaGreatDoor
