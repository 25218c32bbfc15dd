/- The walk of FlowHolds. -/
import Derived.Test.YtijkdabmegbcjaaDoorM32
import Derived.Test.YtijkdabmegbcjaaDoorM29
import Derived.Test.YtijkdabmegbcjaaDoorM13
set_option linter.all false
namespace Go.Proofs.YtijkdabmegbcjaaDoor
open Go.RowKit Go.Shelf

def TabF (_ : World) : Prop := True
theorem tab_of_laid {X : Prop} {W : World} (_ : X) : TabF W := trivial
theorem code_of {w : World} {a : Option Addr} {c : Nat} {zs : List Int} (hl : zs.length ≤ c ∧ c ≤ 9223372036854775807) (hr : RowAt .u8 w a zs) (ha : a = none → c = 0) (hw : ∀ z ∈ zs, (Lit.int .u8 z).wf = true) (h2 : zs.length ≤ 200) :
    ∃ cs, zs = natI cs ∧ CodeAt w a c cs := by
  have hz : ∀ z ∈ zs, 0 ≤ z ∧ z ≤ 255 := fun z h => by
    have := hw z h
    simp [Lit.wf, IntKind.min, IntKind.max, IntKind.signed, IntKind.bits] at this
    exact ⟨by omega, by omega⟩
  have e : zs = natI (zs.map Int.toNat) := by
    apply List.ext_getElem (by simp [natI])
    intro i h1 h2
    have := hz zs[i] (List.getElem_mem h1)
    simp [natI]
    omega
  exact ⟨zs.map Int.toNat, e, by rw [← e]; exact hr, ha, by rw [List.length_map]; exact h2, fun x hx => by
    obtain ⟨z, h, rfl⟩ := List.mem_map.1 hx
    have := hz z h
    omega, by rw [List.length_map]; exact hl⟩
theorem one_in {l : List (Int × Value)} {K : List Nat} (h1 : l.map (·.1) = natI K) (h2 : ∀ x ∈ l, x.2 = .int .i64 1) {n : Nat} (hn : n ∈ K) : (findI n l).getD (.int .i64 0) = .int .i64 1 := by rw [find_one h1 h2, if_pos hn]; rfl
set_option maxRecDepth 100000 in
set_option maxHeartbeats 8000000 in
theorem flowHolds_go (cs : List Nat) (a : Option Addr) (c : Nat) (w : World) (hC : CodeAt w a c cs) (hl : cs.length ≤ 120) :
    Calls Tryd.prog 3 #[.slice a cs.length c] w (Yes w) := by
  have hlb : ¬ ((cs.length : Int) > 120) := by omega
  have hbk := Lib.hid (blocks_any cs a c w hC)
  have hops := Lib.hid fun W (hW : Below w.heap.size w W) => refOps_any cs a c W (hC.below hW)
  have hat := Lib.hid fun W (hW : Below w.heap.size w W) (x : Nat) => at_any cs (x : Int) a c W (hC.below hW)
  have hwi := Lib.hid fun W (hW : Below w.heap.size w W) p q hB => within_any cs a c p q W (hC.below hW) hB
  have hbl := blksN_len cs
  have hgl : (grps cs).length = (blksN cs).length := by simp [blksN]
  have hLl := opsL_len cs
  have hz0 : ∀ w, (zeroValue 3).run Tryd.prog w = .ok (.int .i64 0) w := fun _ => by kernel_rfl
  have hu := Tryd.underlying29
  clear hC
  go_enter Tryd.func3, Tryd.ntmps3
  go_wp2_with (first
    | (go_at_call 5; refine hbk.out.mono ?_; rintro e w1 ⟨⟨p, q, rfl, hP, -⟩, hw1⟩; replace hP := Lib.hid hP; replace hw1 := Lib.hid hw1)
    | (refine wpList_mk rfl 26 rfl ?_))
  have hM0 : Hid (OneAt (w1.alloc (mapI .i64 [])) w1.heap.size (addAll [] (((blksN cs).take 0).map (·.first)))) := Lib.hid (OneAt.new w1)
  have hb0 : Hid (Below w1.heap.size w1 (w1.alloc (mapI .i64 []))) := Lib.hid (xalloc (xrefl w1) _)
  go_loopw [5] (fun iv wx => ∃ i : Nat, iv = .int .i64 i ∧ i ≤ (blksN cs).length ∧ Hid (OneAt wx w1.heap.size (addAll [] (((blksN cs).take i).map (·.first)))) ∧ Hid (Below w1.heap.size w1 wx)) (fun iv _ => (blksN cs).length - (intOf iv).toNat)
  case atStart => exact ⟨0, rfl, by omega, hM0, hb0⟩
  case round =>
    clear hM0 hb0
    obtain ⟨i, rfl, hi, hM, hb⟩ := hrel
    by_cases hlt : i < (blksN cs).length
    · have hltI : (i : Int) < (blksN cs).length := by omega
      obtain ⟨b, o, pn, qn, rfl, hr, -⟩ := (hP.out.below hb.out).elt i hlt
      have hc0 : wr.cell? ⟨b, o + i * 4, none⟩ = some (.int .i64 (blksN cs)[i].first) := by have := hr 0 _ rfl; rwa [Nat.add_zero] at this
      have hadd : Hid (addAll [] (((blksN cs).take (i + 1)).map (·.first)) = addK (addAll [] (((blksN cs).take i).map (·.first))) (blksN cs)[i].first) := Lib.hid (by rw [List.take_succ_eq_append_getElem hlt, List.map_append, List.map_cons, List.map_nil, addAll_snoc])
      generalize (blksN cs)[i].first = F at *
      obtain ⟨l, h1, h2, h3⟩ := hM.out
      replace h1 := Lib.hid h1
      replace h2 := Lib.hid h2
      replace h3 := Lib.hid h3
      clear hr
      go_wp2_with (refine wpList_putI rfl _ 3 3 .i64 _ _ _ rfl (by kernel_rfl) (by kernel_rfl) w1.heap.size (F : Int) (.int .i64 1) l rfl rfl rfl h1.out ?_; intro w8 hm8 ho8; have hn8 := Lib.hid (OneAt.upd (W := w8) (bm := w1.heap.size) h2.out h3.out F hm8); have hb8 := Lib.hid (ho8.below hb.out hb.out.size (by rintro k rfl; exact Nat.le_refl _)); clear ho8 hm8)
      exact ⟨⟨i + 1, by go_num, by omega, Lib.hid (by rw [hadd.out]; exact hn8.out), hb8⟩, by simp [intOf]; omega⟩
    · obtain rfl : i = (blksN cs).length := by omega
      rw [List.take_length] at hM
      have hbw := Lib.hid (xtrans hw1.out hb.out)
      clear hlt
      go_wp2_with (go_at_call 6; refine (hops.out _ hbw.out).mono ?_; rintro e w4 ⟨⟨v, rfl, hv⟩, hw4⟩; obtain ⟨aO, cO, rfl, hIO, -⟩ := hv.at; have hM4 := Lib.hid (hM.out.below hw4); have hP4 := Lib.hid ((hP.out.below hb.out).below hw4); replace hIO := Lib.hid hIO; replace hw4 := Lib.hid (xtrans hbw.out hw4); clear hv)
      clear hM hb hbw
      go_loopw [7, 8] (fun kv iv wx => ∃ i : Nat, iv = .int .i64 i ∧ kv = .int .i64 (offN cs i) ∧ i ≤ (blksN cs).length ∧ Hid (Below w4.heap.size w4 wx)) (fun _ iv _ => (blksN cs).length - (intOf iv).toNat)
      case atStart => exact ⟨0, rfl, rfl, by omega, Lib.hid (xrefl w4)⟩
      case round =>
        obtain ⟨i, rfl, rfl, hi, hb⟩ := hrel
        by_cases hlt : i < (blksN cs).length
        · have hltI : (i : Int) < (blksN cs).length := by omega
          have hgi : i < (grps cs).length := by omega
          obtain ⟨b, o, pn, qn, rfl, hr, hIX⟩ := (hP4.out.below hb.out).elt i hlt
          have hgm : (grps cs)[i] ∈ grps cs := List.getElem_mem hgi
          have hbm : (blksN cs)[i] ∈ blksN cs := List.getElem_mem hlt
          have hB : (blksN cs)[i] = blkN cs (grps cs)[i] := blks_get hgi
          have hpos : 0 < (grps cs)[i].length := List.length_pos_iff.2 (grps_ne hgm)
          have hget2 : Hid (∀ m, offN cs i ≤ m → m < offN cs i + (grps cs)[i].length → ∃ x : Nat, (opsL cs)[m]? = some x ∧ x ≤ lstN (grps cs)[i] ∧ atZ cs (x : Int) = some (fstN (grps cs)[i])) := Lib.hid fun m h1 h2 => by
            have h3 := off_get hgi (j := m - offN cs i) (by omega)
            rw [show offN cs i + (m - offN cs i) = m by omega] at h3
            exact ⟨_, h3, (sl_bounds (grps_sl hgm) (List.getElem_mem _)).2, atZ_in hgm (List.getElem_mem _)⟩
          have hfst : Hid ((opsL cs)[offN cs i]? = some (fstN (grps cs)[i])) := Lib.hid (by
            have h3 := off_get hgi (j := 0) hpos
            rw [fst_get hpos]
            exact h3)
          have hnext : Hid (∀ y, (opsL cs)[offN cs i + (grps cs)[i].length]? = some y → lstN (grps cs)[i] < y) := Lib.hid fun y hy => off_next hgi hy
          have hle : offN cs i + (grps cs)[i].length ≤ (opsL cs).length := off_le hgi
          have hsucc : Hid (offN cs (i + 1) = offN cs i + (grps cs)[i].length) := Lib.hid (offN_succ hgi)
          have hkey : Hid (∀ x ∈ (blkN cs (grps cs)[i]).next, x ∈ addAll [] ((blksN cs).map (·.first))) := Lib.hid fun x hx => by
            rw [← hB] at hx
            obtain ⟨b', h1, h2⟩ := next_block hbm hx
            exact (mem_addAll _ _ _).2 (.inr (List.mem_map.2 ⟨b', h1, h2⟩))
          have hex : Hid ((blkN cs (grps cs)[i]).next = [] → (blkN cs (grps cs)[i]).exit = true) := Lib.hid fun h => by
            rw [← hB] at h ⊢
            exact exit_none hbm h
          have hnl : (blkN cs (grps cs)[i]).next.length ≤ 120 := by
            have := next_len hbm
            rw [hB] at this
            omega
          rw [hB] at hr hIX
          replace hr : wr.rangeAt b (o + i * 4) [.int .i64 (fstN (grps cs)[i]), .int .i64 (lstN (grps cs)[i]), .slice pn (blkN cs (grps cs)[i]).next.length qn, .bool (blkN cs (grps cs)[i]).exit] := hr
          clear hB hbm
          generalize (blkN cs (grps cs)[i]).next = X at *
          generalize (blkN cs (grps cs)[i]).exit = Ex at *
          generalize fstN (grps cs)[i] = F at *
          generalize lstN (grps cs)[i] = La at *
          generalize (grps cs)[i].length = gl at *
          have hkl : offN cs i < (opsL cs).length := by omega
          obtain ⟨bO, oO, rfl, hcO⟩ := hIO.out.get hkl
          have hcell : Hid (∀ m (hm : m < (opsL cs).length) W, Below w4.heap.size w4 W → W.cell? ⟨bO, oO + m, none⟩ = some (.int .i64 ((opsL cs)[m] : Int))) := Lib.hid fun m hm W hW => by
            obtain ⟨b', o', e', hc'⟩ := hIO.out.get hm
            cases e'
            exact cbel hW hc'
          have hF0 : (opsL cs)[offN cs i] = F := by have := hfst.out; rw [List.getElem?_eq_getElem hkl] at this; exact Option.some.inj this
          rw [hF0] at hcO
          clear hgm hfst hF0
          generalize offN cs i = k at *
          have hkI : (k : Int) < (opsL cs).length := by omega
          have hkN : ¬ (opsL cs).length ≤ k := by omega
          replace hr := Lib.hid hr
          replace hIX := Lib.hid hIX
          replace hcO := Lib.hid hcO
          go_wp2_with (first
            | (refine wpList_load_mid rfl 29 _ rfl b (o + i * 4) rfl [.int .i64 F, .int .i64 La, .slice pn X.length qn, .bool Ex] _ hr.out hu rfl (by kernel_rfl) ?_)
            | (refine wpList_store_blkG rfl 29 _ _ rfl wr.heap.size rfl 29 [.int .i64 0, .int .i64 0, .slice none 0 0, .bool false] [.int .i64 F, .int .i64 La, .slice pn X.length qn, .bool Ex] (BlkG.new wr _ _) rfl rfl (by kernel_rfl) rfl ?_; intro w5 hX5 ho5; have hb5 := Lib.hid (ho5.below (xalloc (xrefl wr) _) (xalloc (xrefl wr) (.cells #[.int .i64 0, .int .i64 0, .slice none 0 0, .bool false] 29)).size (by rintro k rfl; exact Nat.le_refl _)); have c50 : w5.cell? ⟨wr.heap.size, 0, none⟩ = some (.int .i64 F) := (by simpa using hX5.range 0 _ rfl); have c51 : w5.cell? ⟨wr.heap.size, 1, none⟩ = some (.int .i64 La) := (by simpa using hX5.range 1 _ rfl); have c52 : w5.cell? ⟨wr.heap.size, 2, none⟩ = some (.slice pn X.length qn) := (by simpa using hX5.range 2 _ rfl); have c53 : w5.cell? ⟨wr.heap.size, 3, none⟩ = some (.bool Ex) := (by simpa using hX5.range 3 _ rfl); replace hX5 := Lib.hid hX5; clear ho5))
          have hop : w5.cell? ⟨bO, oO + k, none⟩ = some (.int .i64 F) := cbel hb5.out (cbel hb.out hcO.out)
          have hfi := c50
          have hw5 := Lib.hid (xtrans hb.out hb5.out)
          have hIX5 := Lib.hid (hIX.out.below hb5.out)
          generalize hb9 : wr.heap.size = b9 at *
          replace hb9 := Lib.hid hb9
          refine' wp_region_growL 13 [fixd _, fixd _, fixd _, fixd _, fixd _, fixd _, fixd _, fixd _, fixd _, fixd _, fixd _, fixd _, fixd _] (by kernel_rfl) (by kernel_rfl) ?_
          rotate_left 13
          simp only [List.take_succ_cons, List.take_zero, List.drop_succ_cons, List.drop_zero]
          try simp only [Act.put, List.setIfInBounds_toArray, List.set_cons_succ, List.set_cons_zero, List.nil_append, List.cons_append]
          refine' wpGrowV_fix _ rfl rfl (fun W hb _ => by go_simp; first | exact xrefl W | exact ⟨rfl, xrefl W⟩) ?_
          try simp only [Act.put, List.setIfInBounds_toArray, List.set_cons_succ, List.set_cons_zero, List.nil_append, List.cons_append]
          refine' wpGrowV_fix _ rfl rfl (fun W hb _ => by go_simp; first | exact xrefl W | exact ⟨rfl, xrefl W⟩) ?_
          try simp only [Act.put, List.setIfInBounds_toArray, List.set_cons_succ, List.set_cons_zero, List.nil_append, List.cons_append]
          refine' wpGrowV_fix _ rfl rfl (fun W hb _ => by go_simp; first | exact xrefl W | exact ⟨rfl, xrefl W⟩) ?_
          try simp only [Act.put, List.setIfInBounds_toArray, List.set_cons_succ, List.set_cons_zero, List.nil_append, List.cons_append]
          refine' wpGrowV_fix _ rfl rfl (fun W hb _ => by go_simp; first | exact xrefl W | exact ⟨rfl, xrefl W⟩) ?_
          try simp only [Act.put, List.setIfInBounds_toArray, List.set_cons_succ, List.set_cons_zero, List.nil_append, List.cons_append]
          refine' wpGrowV_fix _ rfl rfl (fun W hb _ => by go_simp; first | exact xrefl W | exact ⟨rfl, xrefl W⟩) ?_
          try simp only [Act.put, List.setIfInBounds_toArray, List.set_cons_succ, List.set_cons_zero, List.nil_append, List.cons_append]
          first
            | (refine wpGrowV_not rfl rfl ?_)
            | (refine' wpGrowV_fix _ rfl rfl (fun W hb _ => by go_simp; first | exact xrefl W | exact ⟨rfl, xrefl W⟩) ?_)
          try simp only [Act.put, List.setIfInBounds_toArray, List.set_cons_succ, List.set_cons_zero, List.nil_append, List.cons_append]
          first
            | (refine wpGrowV_not rfl rfl ?_)
            | (refine' wpGrowV_fix _ rfl rfl (fun W hb _ => by go_simp; first | exact xrefl W | exact ⟨rfl, xrefl W⟩) ?_)
          try simp only [Act.put, List.setIfInBounds_toArray, List.set_cons_succ, List.set_cons_zero, List.nil_append, List.cons_append]
          first
            | (refine wpGrowV_not rfl rfl ?_)
            | (refine' wpGrowV_fix _ rfl rfl (fun W hb _ => by go_simp; first | exact xrefl W | exact ⟨rfl, xrefl W⟩) ?_)
          try simp only [Act.put, List.setIfInBounds_toArray, List.set_cons_succ, List.set_cons_zero, List.nil_append, List.cons_append]
          first
            | (refine wpGrowV_not rfl rfl ?_)
            | (refine' wpGrowV_fix _ rfl rfl (fun W hb _ => by have c := cbel hb hop; go_simp; first | exact xrefl W | exact ⟨rfl, xrefl W⟩) ?_)
          try simp only [Act.put, List.setIfInBounds_toArray, List.set_cons_succ, List.set_cons_zero, List.nil_append, List.cons_append]
          first
            | (refine wpGrowV_not rfl rfl ?_)
            | (refine' wpGrowV_fix _ rfl rfl (fun W hb _ => by go_simp; first | exact xrefl W | exact ⟨rfl, xrefl W⟩) ?_)
          try simp only [Act.put, List.setIfInBounds_toArray, List.set_cons_succ, List.set_cons_zero, List.nil_append, List.cons_append]
          first
            | (refine wpGrowV_not rfl rfl ?_)
            | (refine' wpGrowV_fix _ rfl rfl (fun W hb _ => by have c := cbel hb hfi; go_simp; first | exact xrefl W | exact ⟨rfl, xrefl W⟩) ?_)
          try simp only [Act.put, List.setIfInBounds_toArray, List.set_cons_succ, List.set_cons_zero, List.nil_append, List.cons_append]
          first
            | (refine wpGrowV_not rfl rfl ?_)
            | (refine' wpGrowV_fix _ rfl rfl (fun W hb _ => by go_simp; first | exact xrefl W | exact ⟨rfl, xrefl W⟩) ?_)
          try simp only [Act.put, List.setIfInBounds_toArray, List.set_cons_succ, List.set_cons_zero, List.nil_append, List.cons_append]
          refine' wpGrowV_fix _ rfl rfl (fun W hb _ => by go_simp; first | exact xrefl W | exact ⟨rfl, xrefl W⟩) ?_
          try simp only [Act.put, List.setIfInBounds_toArray, List.set_cons_succ, List.set_cons_zero, List.nil_append, List.cons_append]
          refine wpGrowV_nil fun W6 hb6 _ => ?_
          replace hb6 := Lib.hid hb6
          clear hop hfi
          go_wp2
          go_loopw [7] (fun kv wx => ∃ m : Nat, kv = .int .i64 m ∧ k ≤ m ∧ m ≤ k + gl ∧ Hid (Below w5.heap.size w5 wx)) (fun kv _ => (opsL cs).length - (intOf kv).toNat)
          case atStart => exact ⟨k, rfl, Nat.le_refl _, by omega, hb6⟩
          case round =>
            clear hb6
            obtain ⟨m, rfl, hkm, hmk, hb3⟩ := hrel
            have hlk := cbel hb3.out c51
            by_cases hm : m < k + gl
            · obtain ⟨x, hx, hxl, hxa⟩ := hget2.out m hkm hm
              have hmL : m < (opsL cs).length := by omega
              have hmI : (m : Int) < (opsL cs).length := by omega
              have hmN : ¬ (opsL cs).length ≤ m := by omega
              have hopk : wr.cell? ⟨bO, oO + m, none⟩ = some (.int .i64 x) := by
                have h5 := hcell.out m hmL wr (xtrans hw5.out hb3.out)
                rw [List.getElem?_eq_getElem hmL] at hx
                rwa [Option.some.inj hx] at h5
              have hxI : (x : Int) ≤ La := by omega
              replace hx := Lib.hid hx
              replace hxa := Lib.hid hxa
              go_wp2_with fail
              refine' wp_region_growL 13 [fixd _, fixd _, fixd _, fixd _, fixd _, fixd _, fixd _, fixd _, fixd _, fixd _, fixd _, fixd _, fixd _] (by kernel_rfl) (by kernel_rfl) ?_
              rotate_left 13
              simp only [List.take_succ_cons, List.take_zero, List.drop_succ_cons, List.drop_zero]
              try simp only [Act.put, List.setIfInBounds_toArray, List.set_cons_succ, List.set_cons_zero, List.nil_append, List.cons_append]
              refine' wpGrowV_fix _ rfl rfl (fun W hb _ => by go_simp; first | exact xrefl W | exact ⟨rfl, xrefl W⟩) ?_
              try simp only [Act.put, List.setIfInBounds_toArray, List.set_cons_succ, List.set_cons_zero, List.nil_append, List.cons_append]
              refine' wpGrowV_fix _ rfl rfl (fun W hb _ => by go_simp; first | exact xrefl W | exact ⟨rfl, xrefl W⟩) ?_
              try simp only [Act.put, List.setIfInBounds_toArray, List.set_cons_succ, List.set_cons_zero, List.nil_append, List.cons_append]
              refine' wpGrowV_fix _ rfl rfl (fun W hb _ => by go_simp; first | exact xrefl W | exact ⟨rfl, xrefl W⟩) ?_
              try simp only [Act.put, List.setIfInBounds_toArray, List.set_cons_succ, List.set_cons_zero, List.nil_append, List.cons_append]
              refine' wpGrowV_fix _ rfl rfl (fun W hb _ => by go_simp; first | exact xrefl W | exact ⟨rfl, xrefl W⟩) ?_
              try simp only [Act.put, List.setIfInBounds_toArray, List.set_cons_succ, List.set_cons_zero, List.nil_append, List.cons_append]
              refine' wpGrowV_fix _ rfl rfl (fun W hb _ => by go_simp; first | exact xrefl W | exact ⟨rfl, xrefl W⟩) ?_
              try simp only [Act.put, List.setIfInBounds_toArray, List.set_cons_succ, List.set_cons_zero, List.nil_append, List.cons_append]
              first
                | (refine wpGrowV_not rfl rfl ?_)
                | (refine' wpGrowV_fix _ rfl rfl (fun W hb _ => by go_simp; first | exact xrefl W | exact ⟨rfl, xrefl W⟩) ?_)
              try simp only [Act.put, List.setIfInBounds_toArray, List.set_cons_succ, List.set_cons_zero, List.nil_append, List.cons_append]
              first
                | (refine wpGrowV_not rfl rfl ?_)
                | (refine' wpGrowV_fix _ rfl rfl (fun W hb _ => by go_simp; first | exact xrefl W | exact ⟨rfl, xrefl W⟩) ?_)
              try simp only [Act.put, List.setIfInBounds_toArray, List.set_cons_succ, List.set_cons_zero, List.nil_append, List.cons_append]
              first
                | (refine wpGrowV_not rfl rfl ?_)
                | (refine' wpGrowV_fix _ rfl rfl (fun W hb _ => by go_simp; first | exact xrefl W | exact ⟨rfl, xrefl W⟩) ?_)
              try simp only [Act.put, List.setIfInBounds_toArray, List.set_cons_succ, List.set_cons_zero, List.nil_append, List.cons_append]
              first
                | (refine wpGrowV_not rfl rfl ?_)
                | (refine' wpGrowV_fix _ rfl rfl (fun W hb _ => by have c := cbel hb hopk; go_simp; first | exact xrefl W | exact ⟨rfl, xrefl W⟩) ?_)
              try simp only [Act.put, List.setIfInBounds_toArray, List.set_cons_succ, List.set_cons_zero, List.nil_append, List.cons_append]
              first
                | (refine wpGrowV_not rfl rfl ?_)
                | (refine' wpGrowV_fix _ rfl rfl (fun W hb _ => by go_simp; first | exact xrefl W | exact ⟨rfl, xrefl W⟩) ?_)
              try simp only [Act.put, List.setIfInBounds_toArray, List.set_cons_succ, List.set_cons_zero, List.nil_append, List.cons_append]
              first
                | (refine wpGrowV_not rfl rfl ?_)
                | (refine' wpGrowV_fix _ rfl rfl (fun W hb _ => by have c := cbel hb hlk; go_simp; first | exact xrefl W | exact ⟨rfl, xrefl W⟩) ?_)
              try simp only [Act.put, List.setIfInBounds_toArray, List.set_cons_succ, List.set_cons_zero, List.nil_append, List.cons_append]
              first
                | (refine wpGrowV_not rfl rfl ?_)
                | (refine' wpGrowV_fix _ rfl rfl (fun W hb _ => by go_simp; first | exact xrefl W | exact ⟨rfl, xrefl W⟩) ?_)
              try simp only [Act.put, List.setIfInBounds_toArray, List.set_cons_succ, List.set_cons_zero, List.nil_append, List.cons_append]
              refine' wpGrowV_fix _ rfl rfl (fun W hb _ => by go_simp; first | exact xrefl W | exact ⟨rfl, xrefl W⟩) ?_
              try simp only [Act.put, List.setIfInBounds_toArray, List.set_cons_succ, List.set_cons_zero, List.nil_append, List.cons_append]
              refine wpGrowV_nil fun W7 hb7 _ => ?_
              have hop7 := cbel hb7 hopk
              have hb57 := Lib.hid (xtrans hb3.out hb7)
              have hax := hat.out W7 (xtrans hw4.out (xtrans hw5.out hb57.out)) x
              rw [hxa.out] at hax
              replace hax : Hid (Calls Tryd.prog 7 _ W7 fun e w' => e = .returned (.tuple #[.int .i64 F, .bool true]) ∧ Below W7.heap.size W7 w') := Lib.hid hax
              clear hopk hlk hb7
              go_wp2_with (go_at_call 7; refine hax.out.mono ?_; rintro e w8 ⟨rfl, hw8⟩; have c08 := cbel (xtrans hb57.out hw8) c50; replace hw8 := Lib.hid (xtrans hb57.out hw8))
              exact ⟨⟨m + 1, by go_num, by omega, by omega, hw8⟩, by simp [intOf]; omega⟩
            · have hmm := Lib.hid (show m = k + gl by omega)
              clear hm
              by_cases hmL : m < (opsL cs).length
              · have hmI : (m : Int) < (opsL cs).length := by omega
                have hmN : ¬ (opsL cs).length ≤ m := by omega
                have hopk : wr.cell? ⟨bO, oO + m, none⟩ = some (.int .i64 ((opsL cs)[m] : Int)) := hcell.out _ hmL wr (xtrans hw5.out hb3.out)
                have hyl := hnext.out (opsL cs)[m] (by rw [← hmm.out]; exact List.getElem?_eq_getElem hmL)
                generalize (opsL cs)[m] = y0 at *
                have hxI : ¬ (y0 : Int) ≤ La := by omega
                have hyN : ¬ y0 ≤ La := by omega
                go_wp2_with fail
                refine' wp_region_growL 13 [fixd _, fixd _, fixd _, fixd _, fixd _, fixd _, fixd _, fixd _, fixd _, fixd _, fixd _, fixd _, fixd _] (by kernel_rfl) (by kernel_rfl) ?_
                rotate_left 13
                simp only [List.take_succ_cons, List.take_zero, List.drop_succ_cons, List.drop_zero]
                try simp only [Act.put, List.setIfInBounds_toArray, List.set_cons_succ, List.set_cons_zero, List.nil_append, List.cons_append]
                refine' wpGrowV_fix _ rfl rfl (fun W hb _ => by go_simp; first | exact xrefl W | exact ⟨rfl, xrefl W⟩) ?_
                try simp only [Act.put, List.setIfInBounds_toArray, List.set_cons_succ, List.set_cons_zero, List.nil_append, List.cons_append]
                refine' wpGrowV_fix _ rfl rfl (fun W hb _ => by go_simp; first | exact xrefl W | exact ⟨rfl, xrefl W⟩) ?_
                try simp only [Act.put, List.setIfInBounds_toArray, List.set_cons_succ, List.set_cons_zero, List.nil_append, List.cons_append]
                refine' wpGrowV_fix _ rfl rfl (fun W hb _ => by go_simp; first | exact xrefl W | exact ⟨rfl, xrefl W⟩) ?_
                try simp only [Act.put, List.setIfInBounds_toArray, List.set_cons_succ, List.set_cons_zero, List.nil_append, List.cons_append]
                refine' wpGrowV_fix _ rfl rfl (fun W hb _ => by go_simp; first | exact xrefl W | exact ⟨rfl, xrefl W⟩) ?_
                try simp only [Act.put, List.setIfInBounds_toArray, List.set_cons_succ, List.set_cons_zero, List.nil_append, List.cons_append]
                refine' wpGrowV_fix _ rfl rfl (fun W hb _ => by go_simp; first | exact xrefl W | exact ⟨rfl, xrefl W⟩) ?_
                try simp only [Act.put, List.setIfInBounds_toArray, List.set_cons_succ, List.set_cons_zero, List.nil_append, List.cons_append]
                first
                  | (refine wpGrowV_not rfl rfl ?_)
                  | (refine' wpGrowV_fix _ rfl rfl (fun W hb _ => by go_simp; first | exact xrefl W | exact ⟨rfl, xrefl W⟩) ?_)
                try simp only [Act.put, List.setIfInBounds_toArray, List.set_cons_succ, List.set_cons_zero, List.nil_append, List.cons_append]
                first
                  | (refine wpGrowV_not rfl rfl ?_)
                  | (refine' wpGrowV_fix _ rfl rfl (fun W hb _ => by go_simp; first | exact xrefl W | exact ⟨rfl, xrefl W⟩) ?_)
                try simp only [Act.put, List.setIfInBounds_toArray, List.set_cons_succ, List.set_cons_zero, List.nil_append, List.cons_append]
                first
                  | (refine wpGrowV_not rfl rfl ?_)
                  | (refine' wpGrowV_fix _ rfl rfl (fun W hb _ => by go_simp; first | exact xrefl W | exact ⟨rfl, xrefl W⟩) ?_)
                try simp only [Act.put, List.setIfInBounds_toArray, List.set_cons_succ, List.set_cons_zero, List.nil_append, List.cons_append]
                first
                  | (refine wpGrowV_not rfl rfl ?_)
                  | (refine' wpGrowV_fix _ rfl rfl (fun W hb _ => by have c := cbel hb hopk; go_simp; first | exact xrefl W | exact ⟨rfl, xrefl W⟩) ?_)
                try simp only [Act.put, List.setIfInBounds_toArray, List.set_cons_succ, List.set_cons_zero, List.nil_append, List.cons_append]
                first
                  | (refine wpGrowV_not rfl rfl ?_)
                  | (refine' wpGrowV_fix _ rfl rfl (fun W hb _ => by go_simp; first | exact xrefl W | exact ⟨rfl, xrefl W⟩) ?_)
                try simp only [Act.put, List.setIfInBounds_toArray, List.set_cons_succ, List.set_cons_zero, List.nil_append, List.cons_append]
                first
                  | (refine wpGrowV_not rfl rfl ?_)
                  | (refine' wpGrowV_fix _ rfl rfl (fun W hb _ => by have c := cbel hb hlk; go_simp; first | exact xrefl W | exact ⟨rfl, xrefl W⟩) ?_)
                try simp only [Act.put, List.setIfInBounds_toArray, List.set_cons_succ, List.set_cons_zero, List.nil_append, List.cons_append]
                first
                  | (refine wpGrowV_not rfl rfl ?_)
                  | (refine' wpGrowV_fix _ rfl rfl (fun W hb _ => by go_simp; first | exact xrefl W | exact ⟨rfl, xrefl W⟩) ?_)
                try simp only [Act.put, List.setIfInBounds_toArray, List.set_cons_succ, List.set_cons_zero, List.nil_append, List.cons_append]
                refine' wpGrowV_fix _ rfl rfl (fun W hb _ => by go_simp; first | exact xrefl W | exact ⟨rfl, xrefl W⟩) ?_
                try simp only [Act.put, List.setIfInBounds_toArray, List.set_cons_succ, List.set_cons_zero, List.nil_append, List.cons_append]
                refine wpGrowV_nil fun W9 hb9' _ => ?_
                have hb59 := Lib.hid (xtrans hb3.out hb9')
                have c29 := cbel hb59.out c52
                have c39 := cbel hb59.out c53
                have hIX9 := Lib.hid (hIX5.out.below hb59.out)
                have hw49 := Lib.hid (xtrans hw5.out hb59.out)
                obtain ⟨l, h1, h2, h3⟩ := hM4.out.below hw49.out
                replace h1 := Lib.hid h1
                replace h2 := Lib.hid h2
                replace h3 := Lib.hid h3
                clear hopk hlk hb9'
                go_wp2
                go_loopw [12] (fun jv wx => ∃ j : Nat, jv = .int .i64 j ∧ j ≤ X.length ∧ wx = W9) (fun jv _ => X.length - (intOf jv).toNat)
                case atStart => exact ⟨0, rfl, by omega, rfl⟩
                case round =>
                  obtain ⟨j, rfl, hj, rfl⟩ := hrel
                  by_cases hltj : j < X.length
                  · have hltJ : (j : Int) < X.length := by omega
                    obtain ⟨b4, o4, rfl, hcy⟩ := hIX9.out.get hltj
                    have hone : Hid ((findI (X[j] : Int) l).getD (.int .i64 0) = .int .i64 1) := Lib.hid (one_in h2.out h3.out (hkey.out _ (List.getElem_mem hltj)))
                    generalize X[j] = y at *
                    go_wp2_with (refine wpList_lookI rfl 26 3 3 .i64 _ _ false rfl (by kernel_rfl) (by kernel_rfl) hz0 (y : Int) w1.heap.size l rfl rfl h1.out ?_; rw [if_neg (by decide), hone.out])
                    exact ⟨⟨j + 1, by go_num, by omega, trivial⟩, by simp [intOf]; omega⟩
                  · obtain rfl : j = X.length := by omega
                    clear hltj
                    by_cases hX0 : X.length = 0
                    · have hEx : Ex = true := hex.out (List.eq_nil_of_length_eq_zero hX0)
                      subst hEx
                      have hX0I : (X.length : Int) = 0 := by omega
                      replace hX0 := Lib.hid hX0
                      go_wp2
                      exact ⟨⟨i + 1, rfl, by rw [hsucc.out, hmm.out], by omega, hw49⟩, by simp [intOf]; omega⟩
                    · have hX0I : ¬ (X.length : Int) = 0 := by omega
                      go_wp2
                      exact ⟨⟨i + 1, rfl, by rw [hsucc.out, hmm.out], by omega, hw49⟩, by simp [intOf]; omega⟩
              · have hmI : ¬ (m : Int) < (opsL cs).length := by omega
                have hopk : True := trivial
                go_wp2_with fail
                refine' wp_region_growL 13 [fixd _, fixd _, fixd _, fixd _, fixd _, fixd undef, fixd undef, fixd undef, fixd undef, fixd undef, fixd undef, fixd undef, fixd _] (by kernel_rfl) (by kernel_rfl) ?_
                rotate_left 6
                simp only [List.take_succ_cons, List.take_zero, List.drop_succ_cons, List.drop_zero]
                try simp only [Act.put, List.setIfInBounds_toArray, List.set_cons_succ, List.set_cons_zero, List.nil_append, List.cons_append]
                refine' wpGrowV_fix _ rfl rfl (fun W hb _ => by go_simp; first | exact xrefl W | exact ⟨rfl, xrefl W⟩) ?_
                try simp only [Act.put, List.setIfInBounds_toArray, List.set_cons_succ, List.set_cons_zero, List.nil_append, List.cons_append]
                refine' wpGrowV_fix _ rfl rfl (fun W hb _ => by go_simp; first | exact xrefl W | exact ⟨rfl, xrefl W⟩) ?_
                try simp only [Act.put, List.setIfInBounds_toArray, List.set_cons_succ, List.set_cons_zero, List.nil_append, List.cons_append]
                refine' wpGrowV_fix _ rfl rfl (fun W hb _ => by go_simp; first | exact xrefl W | exact ⟨rfl, xrefl W⟩) ?_
                try simp only [Act.put, List.setIfInBounds_toArray, List.set_cons_succ, List.set_cons_zero, List.nil_append, List.cons_append]
                refine' wpGrowV_fix _ rfl rfl (fun W hb _ => by go_simp; first | exact xrefl W | exact ⟨rfl, xrefl W⟩) ?_
                try simp only [Act.put, List.setIfInBounds_toArray, List.set_cons_succ, List.set_cons_zero, List.nil_append, List.cons_append]
                refine' wpGrowV_fix _ rfl rfl (fun W hb _ => by go_simp; first | exact xrefl W | exact ⟨rfl, xrefl W⟩) ?_
                try simp only [Act.put, List.setIfInBounds_toArray, List.set_cons_succ, List.set_cons_zero, List.nil_append, List.cons_append]
                refine wpGrowV_not rfl rfl ?_
                try simp only [Act.put, List.setIfInBounds_toArray, List.set_cons_succ, List.set_cons_zero, List.nil_append, List.cons_append]
                refine wpGrowV_not rfl rfl ?_
                try simp only [Act.put, List.setIfInBounds_toArray, List.set_cons_succ, List.set_cons_zero, List.nil_append, List.cons_append]
                refine wpGrowV_not rfl rfl ?_
                try simp only [Act.put, List.setIfInBounds_toArray, List.set_cons_succ, List.set_cons_zero, List.nil_append, List.cons_append]
                refine wpGrowV_not rfl rfl ?_
                try simp only [Act.put, List.setIfInBounds_toArray, List.set_cons_succ, List.set_cons_zero, List.nil_append, List.cons_append]
                refine wpGrowV_not rfl rfl ?_
                try simp only [Act.put, List.setIfInBounds_toArray, List.set_cons_succ, List.set_cons_zero, List.nil_append, List.cons_append]
                refine wpGrowV_not rfl rfl ?_
                try simp only [Act.put, List.setIfInBounds_toArray, List.set_cons_succ, List.set_cons_zero, List.nil_append, List.cons_append]
                refine wpGrowV_not rfl rfl ?_
                try simp only [Act.put, List.setIfInBounds_toArray, List.set_cons_succ, List.set_cons_zero, List.nil_append, List.cons_append]
                refine' wpGrowV_fix _ rfl rfl (fun W hb _ => by go_simp; first | exact xrefl W | exact ⟨rfl, xrefl W⟩) ?_
                try simp only [Act.put, List.setIfInBounds_toArray, List.set_cons_succ, List.set_cons_zero, List.nil_append, List.cons_append]
                refine wpGrowV_nil fun W9 hb9' _ => ?_
                have hb59 := Lib.hid (xtrans hb3.out hb9')
                have c29 := cbel hb59.out c52
                have c39 := cbel hb59.out c53
                have hIX9 := Lib.hid (hIX5.out.below hb59.out)
                have hw49 := Lib.hid (xtrans hw5.out hb59.out)
                obtain ⟨l, h1, h2, h3⟩ := hM4.out.below hw49.out
                replace h1 := Lib.hid h1
                replace h2 := Lib.hid h2
                replace h3 := Lib.hid h3
                clear hopk hlk hb9'
                go_wp2
                go_loopw [12] (fun jv wx => ∃ j : Nat, jv = .int .i64 j ∧ j ≤ X.length ∧ wx = W9) (fun jv _ => X.length - (intOf jv).toNat)
                case atStart => exact ⟨0, rfl, by omega, rfl⟩
                case round =>
                  obtain ⟨j, rfl, hj, rfl⟩ := hrel
                  by_cases hltj : j < X.length
                  · have hltJ : (j : Int) < X.length := by omega
                    obtain ⟨b4, o4, rfl, hcy⟩ := hIX9.out.get hltj
                    have hone : Hid ((findI (X[j] : Int) l).getD (.int .i64 0) = .int .i64 1) := Lib.hid (one_in h2.out h3.out (hkey.out _ (List.getElem_mem hltj)))
                    generalize X[j] = y at *
                    go_wp2_with (refine wpList_lookI rfl 26 3 3 .i64 _ _ false rfl (by kernel_rfl) (by kernel_rfl) hz0 (y : Int) w1.heap.size l rfl rfl h1.out ?_; rw [if_neg (by decide), hone.out])
                    exact ⟨⟨j + 1, by go_num, by omega, trivial⟩, by simp [intOf]; omega⟩
                  · obtain rfl : j = X.length := by omega
                    clear hltj
                    by_cases hX0 : X.length = 0
                    · have hEx : Ex = true := hex.out (List.eq_nil_of_length_eq_zero hX0)
                      subst hEx
                      have hX0I : (X.length : Int) = 0 := by omega
                      replace hX0 := Lib.hid hX0
                      go_wp2
                      exact ⟨⟨i + 1, rfl, by rw [hsucc.out, hmm.out], by omega, hw49⟩, by simp [intOf]; omega⟩
                    · have hX0I : ¬ (X.length : Int) = 0 := by omega
                      go_wp2
                      exact ⟨⟨i + 1, rfl, by rw [hsucc.out, hmm.out], by omega, hw49⟩, by simp [intOf]; omega⟩
        · obtain rfl : i = (blksN cs).length := by omega
          have hall : offN cs (blksN cs).length = (opsL cs).length := by rw [← hgl]; exact offN_all cs
          rw [hall]
          have hbw := Lib.hid (xtrans hw4.out hb.out)
          have hPw := Lib.hid (hP4.out.below hb.out)
          have hww := Lib.hid (hwi.out wr hbw.out p q hPw.out)
          clear hlt hall
          go_wp2_with (first
            | (go_at_call 8; refine hww.out.mono ?_; rintro e w8 ⟨rfl, hw8⟩; replace hw8 := Lib.hid (xtrans hbw.out hw8))
            | (go_at_call 4; refine (works_any _).mono ?_; rintro e w9 ⟨rfl, b9⟩))
          go_ret
          exact ⟨rfl, xtrans hw8.out b9⟩
set_option maxRecDepth 100000 in
set_option maxHeartbeats 2000000 in
theorem flowHolds_walk (a : Option Addr) (c : Nat) (zs : List Int) (w : World) (hl : zs.length ≤ c ∧ c ≤ 9223372036854775807) (hr : RowAt .u8 w a zs) (ha : a = none → c = 0) (hw : ∀ z ∈ zs, (Lit.int .u8 z).wf = true) (_ : TabF w) :
    Calls Tryd.prog 3 #[.slice a zs.length c] w (Yes w) := by
  by_cases h : (zs.length : Int) > 120
  · clear hr ha hw hl
    go_enter Tryd.func3, Tryd.ntmps3
    go_wp2_with (go_at_call 4; refine (works_any _).mono ?_; rintro e w9 ⟨rfl, b9⟩)
    go_ret
    exact ⟨rfl, b9⟩
  · obtain ⟨cs, rfl, hC⟩ := code_of hl hr ha hw (by omega)
    rw [natI_len] at h ⊢
    exact flowHolds_go cs a c w hC (by omega)
end Go.Proofs.YtijkdabmegbcjaaDoor
