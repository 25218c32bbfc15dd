/- Texts of this claim, merged; no condition. -/
import Derived.Test.YthpallkphamobaaGreatDoorJ26
set_option linter.all false
namespace Go.Proofs.YthpallkphamobaaGreatDoor
open Go.RowKit Go.Shelf

theorem info_strP : (Tryz.prog.info? 9).map (fun i => (i.zero, i.size, i.bytes)) = some (some (.string ⟨#[]⟩), 1, 16) := by kernel_rfl
/-- Strings joined by blanks. -/
theorem join_any (ss : List (List UInt8)) (n : Nat) (hn : ss.length = n) (hn2 : n ≤ 10) (hlen : (Lib.join ss [32]).length ≤ 100000) (W : World) (q : Nat) (hr : RowV W (some ⟨q, 0, none⟩) (ss.map strL)) (hq : q < W.heap.size) :
    Calls Tryz.prog 105 #[.slice (some ⟨q, 0, none⟩) n n, .string ⟨#[32]⟩] W fun e w' => e = .returned (.string ⟨(Lib.join ss [32]).toArray⟩) ∧ Below W.heap.size W w' := by
  have hm : (ss.map fun l => (⟨l.toArray⟩ : ByteArray)).map (·.data.toList) = ss := by
    rw [List.map_map]
    exact (List.map_congr_left fun l _ => by simp).trans (List.map_id ss)
  have hs : (⟨#[32]⟩ : ByteArray).data.toList = [32] := rfl
  have h := Tryz.strings_Join q 0 n (ss.map fun l => (⟨l.toArray⟩ : ByteArray)) ⟨#[32]⟩ W (fun j x hj => by
    rw [List.getElem?_map] at hj
    cases hs : ss[j]? with
    | none => rw [hs] at hj; cases hj
    | some l =>
      rw [hs] at hj
      obtain ⟨hlt, e⟩ := List.getElem?_eq_some_iff.1 hs
      obtain ⟨b, o, e1, hc⟩ := hr j (by simpa using hlt)
      cases e1
      rw [hc]
      simp only [Option.map_some, Option.some.injEq] at hj
      rw [← hj, List.getElem_map, e]
      rfl) hq (by rw [List.length_map]; omega) (by rw [List.length_map]; omega) (by rw [hm, hs]; omega)
  rw [hm, hs, List.length_map, hn] at h
  exact h
theorem cS_len (x : List Nat × BitVec 64) (h : Adr x.1) : (Lib.join (lineC x) [32]).length ≤ 100000 := by
  unfold lineC
  rw [Lib.join_length]
  have h1 := textL_len x.2
  have h2 : (hexN x.1).length = 42 := by rw [hexN_len, h.len]
  simp [Lib.lens, wClear, h2]
  omega
theorem rS_len (x : List Nat × Nat × BitVec 64) (h : Adr x.1) (h4 : x.2.1 < 4294967296) : (Lib.join (lineR x) [32]).length ≤ 100000 := by
  unfold lineR
  rw [Lib.join_length]
  have h1 := textL_len x.2.2
  have h2 : (hexN x.1).length = 42 := by rw [hexN_len, h.len]
  have h3 : (Lib.decDigits x.2.1).length ≤ 20 := by
    rw [Lib.decDigits_length]
    by_cases h0 : 1 ≤ x.2.1
    · have := Lib.numDigits_eq x.2.1 h0 (by omega); split at this <;> omega
    · rw [show x.2.1 = 0 by omega, Lib.nDigits_small (by decide)]; decide
  simp [Lib.lens, wRelease, h2]
  omega
set_option maxRecDepth 100000 in
set_option maxHeartbeats 16000000 in
theorem lines_any (p : PolN) (pa pb : Option Addr) (pc pd : Nat) (w : World) (hp : PolAt w p pa pc pb pd) (hT : TabP w) (hl1 : p.clears.length ≤ 1000) (hl2 : p.rels.length ≤ 1000) :
    Calls Tryz.prog 67 #[polV p pa pc pb pd] w fun e w' => (∃ v, e = .returned v ∧ w'.ownsRow (w.heap.size + 1) 9 1 v (linesF p).length ((linesF p).map strL)) ∧ Below w.heap.size w w' := by
  obtain ⟨i0, hi0, hz0, hz1, hz2⟩ := info_parts info_strP
  have hTt : Hid (∀ W, Below w.heap.size w W → TabP W) := Lib.hid fun W h => hT.below h
  have hpt : Hid (∀ W, Below w.heap.size w W → PolAt W p pa pc pb pd) := Lib.hid fun W h => hp.below h
  have hdt := Lib.hid fun W (hb : Below w.heap.size w W) => text_any p.dflt W (hTt.out W hb).tab
  have hlc := Lib.hid fun x hx => clearC_len (hp.ok.adrC (x := x) hx)
  have hlr := Lib.hid fun x hx => relC_len (hp.ok.adrR (x := x) hx)
  have hok := Lib.hid hp.ok
  have hb0 : Hid (Below w.heap.size w (w.alloc (.cells #[labV p.dflt, .slice pa p.clears.length pc, .slice pb p.rels.length pd] 27))) := Lib.hid (xalloc (xrefl w) _)
  have hP0 : BlkG (w.alloc (.cells #[labV p.dflt, .slice pa p.clears.length pc, .slice pb p.rels.length pd] 27)) w.heap.size 27 [labV p.dflt, .slice pa p.clears.length pc, .slice pb p.rels.length pd] := BlkG.new w _ _
  have c0 := hP0.cell 0 (by simp)
  have c1 := hP0.cell 1 (by simp)
  have c2 := hP0.cell 2 (by simp)
  simp only [List.getElem_cons_succ, List.getElem_cons_zero] at c0 c1 c2
  have hw0 : w.heap.size < (w.alloc (.cells #[labV p.dflt, .slice pa p.clears.length pc, .slice pb p.rels.length pd] 27)).heap.size := by rw [World.size_alloc]; omega
  have hdl := textL_len p.dflt
  have hds : (⟨#[100, 101, 102, 97, 117, 108, 116, 32]⟩ : ByteArray) ++ ⟨(textL p.dflt).toArray⟩ = ⟨(dS p.dflt).toArray⟩ := by
    unfold dS lineD
    rw [Lib.join_cons]
    apply ByteArray.ext
    simp [Lib.joinTail, wDefault]
  unfold strL at hdt
  unfold labV at c0
  generalize htd : textL p.dflt = td at *
  have hdsz : (⟨td.toArray⟩ : ByteArray).size = td.length := by show td.toArray.size = _; simp
  replace htd := Lib.hid htd
  replace hds := Lib.hid hds
  clear hp hT hP0
  unfold polV
  go_enter Tryz.func67, Tryz.ntmps67
  go_upto_region 2 with (go_at_call 104; refine (hdt.out _ hb0.out).mono ?_; rintro e w2 ⟨rfl, hb2⟩; have c1' := cbel hb2 c1; have c2' := cbel hb2 c2; have hs2 := hb2.size; clear c0 c1 c2; replace hb2 := Lib.hid (xtrans hb0.out hb2))
  have ho3 : Hid (World.ownsRow (w2.alloc (.cells #[.string (⟨#[100, 101, 102, 97, 117, 108, 116, 32]⟩ ++ ⟨td.toArray⟩)] 9)) (w.heap.size + 1) 9 1 (.slice (some ⟨w2.heap.size, 0, none⟩) 1 1) 1 ([dS p.dflt].map strL)) := Lib.hid (by
    have := World.ownsRow_lit (base := w.heap.size + 1) (e := 9) (size := 1) w2 #[.string (⟨#[100, 101, 102, 97, 117, 108, 116, 32]⟩ ++ ⟨td.toArray⟩)] 1 (by omega) (by unfold maxLen; omega) rfl
    rw [hds.out] at this ⊢
    exact this)
  have hb3 := Lib.hid (xtrans hb2.out (xalloc (xrefl w2) (.cells #[.string (⟨#[100, 101, 102, 97, 117, 108, 116, 32]⟩ ++ ⟨td.toArray⟩)] 9)))
  have c1'' := cbel (xalloc (xrefl w2) (.cells #[.string (⟨#[100, 101, 102, 97, 117, 108, 116, 32]⟩ ++ ⟨td.toArray⟩)] 9)) c1'
  have c2'' := cbel (xalloc (xrefl w2) (.cells #[.string (⟨#[100, 101, 102, 97, 117, 108, 116, 32]⟩ ++ ⟨td.toArray⟩)] 9)) c2'
  have hs3 : w.heap.size + 1 ≤ (w2.alloc (.cells #[.string (⟨#[100, 101, 102, 97, 117, 108, 116, 32]⟩ ++ ⟨td.toArray⟩)] 9)).heap.size := by rw [World.size_alloc]; omega
  generalize w2.alloc (.cells #[.string (⟨#[100, 101, 102, 97, 117, 108, 116, 32]⟩ ++ ⟨td.toArray⟩)] 9) = w3 at *
  clear c1' c2' hb0 hb2 hds htd hdt
  go_wp2
  go_loopw [3, 16] (fun v iv wx => ∃ k : Nat, iv = .int .i64 k ∧ k ≤ p.clears.length ∧ Hid (wx.ownsRow (w.heap.size + 1) 9 1 v (1 + k) (([dS p.dflt] ++ (p.clears.take k).map cS).map strL)) ∧ Hid (Below w.heap.size w wx) ∧ w.heap.size + 1 ≤ wx.heap.size ∧ Hid (wx.cell? ⟨w.heap.size, 2, none⟩ = some (.slice pb p.rels.length pd))) (fun _ iv _ => p.clears.length - (intOf iv).toNat)
  case atStart => exact ⟨0, rfl, by omega, Lib.hid (by simpa using ho3.out), hb3, hs3, Lib.hid c2''⟩
  case round =>
    obtain ⟨k, rfl, hk, hown, hb, hszw, hc2⟩ := hrel
    by_cases hlt : k < p.clears.length
    · have hltI : (k : Int) < p.clears.length := by omega
      obtain ⟨g, o, rfl, hr⟩ := (hpt.out wr hb.out).cl.elt k hlt
      have hm := List.getElem_mem hlt
      have hxl := hlc.out _ hm
      have hxa := hok.out.adrC hm
      have hnx : Hid (([dS p.dflt] ++ (p.clears.take (k + 1)).map cS) = ([dS p.dflt] ++ (p.clears.take k).map cS) ++ [cS p.clears[k]]) := Lib.hid (by rw [List.take_succ_eq_append_getElem hlt, List.map_append, List.append_assoc]; rfl)
      have hwi : IntKind.i64.wrap ((k : Int) + 1) = (k : Int) + 1 := by simp [IntKind.wrap, IntKind.bits, IntKind.signed]; omega
      generalize p.clears[k] = x at *
      replace hr := Lib.hid hr
      obtain ⟨nk, hnk⟩ : ∃ nk, Hid (nk = 1 + k) := ⟨_, Lib.hid rfl⟩
      rw [← hnk.out] at hown
      have hnk2 : nk ≤ 3000 := by rw [hnk.out]; omega
      generalize ([dS p.dflt] ++ (p.clears.take k).map cS) = pre at *
      have hne : ∀ j, (.nilIface : Value).ownBlock = some j → True := fun _ _ => trivial
      obtain ⟨av, cv, rfl⟩ := own_sliceV hown.out
      have hlo : ∀ j, (Value.slice av nk cv).ownBlock = some j → w.heap.size + 1 ≤ j := fun j e => (hown.out.lt _ e).1
      have hx1 : (clearC x).all (·.oneCell') = true := clearC_one x
      have hsw := hb.out.size
      have hln := cS_len x hxa
      have hnm := Lib.hid fun W => name_any x.1 hxa W
      have htx0 := Lib.hid fun W (hb : Below w.heap.size w W) => text_any x.2 W (hTt.out W hb).tab
      have hJ := Lib.hid fun W q hr hq => join_any (lineC x) 3 rfl (by decide) hln W q hr hq
      have hpt2 : ∀ (j : Nat) (v : Value), (adrC x.1)[j]? = some v → (clearC x)[j]? = some v := fun j v h => pre_get h
      have h20 : (clearC x)[20]? = some (.int .u64 (iv64 x.2)) := by have := clearC_get x hxa; rw [List.getElem?_toArray] at this; exact this
      have hla : (adrC x.1).length = 20 := by rw [adrC_len, hxa.len]
      unfold lineC at hJ
      change Hid (([dS p.dflt] ++ (p.clears.take (k + 1)).map cS) = pre ++ [Lib.join (lineC x) [32]]) at hnx
      unfold lineC at hnx hln
      unfold strL at htx0
      unfold adrV at hnm
      generalize hlnn : Lib.join [wClear, hexN x.1, textL x.2] [32] = ln at *
      generalize textL x.2 = tx at *
      generalize hexN x.1 = nm at *
      generalize iv64 x.2 = lx at *
      generalize adrC x.1 = la at *
      generalize clearC x = xc at *
      clear hm hlnn
      go_upto_region 5 with (first
        | (refine wpList_load_mid rfl 65 _ rfl g (o + k * 21) rfl xc _ hr.out Tryz.underlying65 rfl (by rw [hxl]; kernel_rfl) ?_)
        | (refine wpList_store_blkG rfl 65 _ _ rfl wr.heap.size rfl 65 [.int .u8 0, .int .u8 0, .int .u8 0, .int .u8 0, .int .u8 0, .int .u8 0, .int .u8 0, .int .u8 0, .int .u8 0, .int .u8 0, .int .u8 0, .int .u8 0, .int .u8 0, .int .u8 0, .int .u8 0, .int .u8 0, .int .u8 0, .int .u8 0, .int .u8 0, .int .u8 0, .int .u64 0] xc (BlkG.new wr _ _) rfl (by rw [hxl]; rfl) (by rw [hxl]; kernel_rfl) hx1 ?_; intro w5 hB5 ho5; have hb5 := ho5.below (xalloc (xrefl wr) _) (xalloc (xrefl wr) (.cells ([.int .u8 0, .int .u8 0, .int .u8 0, .int .u8 0, .int .u8 0, .int .u8 0, .int .u8 0, .int .u8 0, .int .u8 0, .int .u8 0, .int .u8 0, .int .u8 0, .int .u8 0, .int .u8 0, .int .u8 0, .int .u8 0, .int .u8 0, .int .u8 0, .int .u8 0, .int .u8 0, .int .u64 0]).toArray 65)).size (by rintro k rfl; exact Nat.le_refl _); clear ho5))
      obtain ⟨h, hh⟩ : ∃ h, Hid (h = wr.heap.size) := ⟨_, Lib.hid rfl⟩
      rw [← hh.out] at hB5 ⊢
      have hown5 := Lib.hid (own_belowV hown.out hb5)
      have hc25 := cbel hb5 hc2.out
      have hs5 := hb5.size
      have hbw5 := Lib.hid (xtrans hb.out hb5)
      have hld : Hid (∀ W, Below w5.heap.size w5 W → W.rangeAt h 0 la) := Lib.hid fun W hb j u hj => by
        have := cbel hb (blk_cell hB5 (hpt2 j u hj))
        simpa using this
      have hcx : Hid (∀ W, Below w5.heap.size w5 W → W.cell? ⟨h, 20, none⟩ = some (.int .u64 lx)) := Lib.hid fun W hb => cbel hb (blk_cell hB5 h20)
      have htx := Lib.hid fun W (hb : Below w5.heap.size w5 W) => htx0.out W (xtrans hbw5.out hb)
      clear hB5 hb5 hown hr
      refine' wp_region_growL 10 [fixd (.slice av nk cv), fixd (.pointer (some ⟨h, 0, none⟩)), fixd (.agg la.toArray), fixd (.string ⟨nm.toArray⟩), fixd (.pointer (some ⟨h, 20, none⟩)), fixd (.int .u64 lx), fixd (.string ⟨tx.toArray⟩), strT [wClear, nm, tx] 3, fixd (.string ⟨ln.toArray⟩), strT [ln] 1] (by kernel_rfl) (by kernel_rfl) ?_
      simp only [List.take_succ_cons, List.take_zero, List.drop_succ_cons, List.drop_zero]
      try simp only [Act.put, List.setIfInBounds_toArray, List.set_cons_succ, List.set_cons_zero, List.nil_append, List.cons_append]
      apply wpGrowV_fix (.slice av nk cv) rfl rfl
      · intro W hb hF
        go_simp
        first | exact xrefl W | exact ⟨rfl, xrefl W⟩ | exact ⟨by omega, xrefl W⟩
      try simp only [Act.put, List.setIfInBounds_toArray, List.set_cons_succ, List.set_cons_zero, List.nil_append, List.cons_append]
      apply wpGrowV_fix (.pointer (some ⟨h, 0, none⟩)) rfl rfl
      · intro W hb hF
        go_simp
        first | exact xrefl W | exact ⟨rfl, xrefl W⟩ | exact ⟨by omega, xrefl W⟩
      try simp only [Act.put, List.setIfInBounds_toArray, List.set_cons_succ, List.set_cons_zero, List.nil_append, List.cons_append]
      apply wpGrowV_fix (.agg la.toArray) rfl rfl
      · intro W hb hF
        rw [run_load_midV 29 _ rfl h 0 rfl la _ (by have := hld.out W hb; simpa using this) Tryz.underlying29 rfl (by rw [hla]; kernel_rfl)]
        exact ⟨rfl, xrefl W⟩
      try simp only [Act.put, List.setIfInBounds_toArray, List.set_cons_succ, List.set_cons_zero, List.nil_append, List.cons_append]
      apply wpGrowV_fix (.string ⟨nm.toArray⟩) rfl rfl
      · intro W hb hF
        go_simp
        go_at_call 20
        refine (hnm.out W).mono ?_
        rintro e w' ⟨rfl, hb'⟩
        exact ⟨rfl, hb'⟩
      try simp only [Act.put, List.setIfInBounds_toArray, List.set_cons_succ, List.set_cons_zero, List.nil_append, List.cons_append]
      apply wpGrowV_fix (.pointer (some ⟨h, 20, none⟩)) rfl rfl
      · intro W hb hF
        go_simp
        first | exact xrefl W | exact ⟨rfl, xrefl W⟩ | exact ⟨by omega, xrefl W⟩
      try simp only [Act.put, List.setIfInBounds_toArray, List.set_cons_succ, List.set_cons_zero, List.nil_append, List.cons_append]
      apply wpGrowV_fix (.int .u64 lx) rfl rfl
      · intro W hb hF
        have c := hcx.out W hb
        go_simp
        first | exact xrefl W | exact ⟨rfl, xrefl W⟩
      try simp only [Act.put, List.setIfInBounds_toArray, List.set_cons_succ, List.set_cons_zero, List.nil_append, List.cons_append]
      apply wpGrowV_fix (.string ⟨tx.toArray⟩) rfl rfl
      · intro W hb hF
        go_simp
        go_at_call 104
        refine (htx.out W hb).mono ?_
        rintro e w' ⟨rfl, hb'⟩
        exact ⟨rfl, hb'⟩
      try simp only [Act.put, List.setIfInBounds_toArray, List.set_cons_succ, List.set_cons_zero, List.nil_append, List.cons_append]
      refine wpGrowV_any (strT [wClear, nm, tx] 3) rfl rfl ?_ ?_
      · intro W hb hF
        go_simp
        exact ⟨⟨⟨_, rfl⟩, fun b e => by cases e; exact ⟨rowV_new W 9 ([wClear, nm, tx].map strL), by rw [World.size_alloc]; omega⟩⟩, xalloc (xrefl W) _⟩
      rintro v hv
      obtain ⟨q7, rfl⟩ := hv
      try simp only [Act.put, List.setIfInBounds_toArray, List.set_cons_succ, List.set_cons_zero, List.nil_append, List.cons_append]
      apply wpGrowV_fix (.string ⟨ln.toArray⟩) rfl rfl
      · intro W hb hF
        have hq := hF 7 (by kernel_rfl) (by simp)
        obtain ⟨hr, hlt⟩ := (show ∀ b : Nat, Value.slice (some ⟨q7, 0, none⟩) 3 3 = .slice (some ⟨b, 0, none⟩) 3 3 → RowV W (some ⟨b, 0, none⟩) ([wClear, nm, tx].map strL) ∧ b < W.heap.size from hq) q7 rfl
        go_simp
        go_at_call 105
        refine (hJ.out W q7 hr hlt).mono ?_
        rintro e w' ⟨rfl, hb'⟩
        exact ⟨rfl, hb'⟩
      try simp only [Act.put, List.setIfInBounds_toArray, List.set_cons_succ, List.set_cons_zero, List.nil_append, List.cons_append]
      refine wpGrowV_any (strT [ln] 1) rfl rfl ?_ ?_
      · intro W hb hF
        go_simp
        exact ⟨⟨⟨_, rfl⟩, fun b e => by cases e; exact ⟨rowV_new W 9 ([ln].map strL), by rw [World.size_alloc]; omega⟩⟩, xalloc (xrefl W) _⟩
      rintro v hv
      obtain ⟨q9, rfl⟩ := hv
      try simp only [Act.put, List.setIfInBounds_toArray, List.set_cons_succ, List.set_cons_zero, List.nil_append, List.cons_append]
      refine wpGrowV_nil fun W6 hb6 hmem => ?_
      have h9 := hmem 9 (by decide)
      obtain ⟨hr9, hq9⟩ := (show ∀ b : Nat, Value.slice (some ⟨q9, 0, none⟩) 1 1 = .slice (some ⟨b, 0, none⟩) 1 1 → RowV W6 (some ⟨b, 0, none⟩) ([ln].map strL) ∧ b < W6.heap.size from h9) q9 rfl
      have hown6 := Lib.hid (own_belowV hown5.out hb6)
      have hc26 := Lib.hid (cbel hb6 hc25)
      have hs6 := hb6.size
      have hbw6 := Lib.hid (xtrans hbw5.out hb6)
      have hsz6 : w.heap.size + 1 ≤ W6.heap.size := by omega
      replace hr9 := Lib.hid hr9
      clear hmem h9 hown5 hld hcx htx hJ
      go_wp2_with (at_builtin; refine wpList_append_vals W6 rfl _ _ 71 rfl (w.heap.size + 1) 9 i0 (.string ⟨#[]⟩) 1 16 Tryz.underlying71 hi0 hz0 hz1 hz2 rfl (by decide) _ nk _ rfl hown6.out (some ⟨q9, 0, none⟩) 1 1 [strL ln] rfl (by simp) rfl hr9.out (by simp [strL, Value.oneCell']) (by unfold maxLen; omega) (by omega) hsz6 ?_; intro v7 w7 ho7 hg7; have hb7 := Lib.hid (hbw6.out.grown hg7 (by omega) (fun j hj => Nat.le_of_succ_le (hlo j hj))); have hc27 := Lib.hid (hg7.cell hc26.out (fun e => by have := hlo _ e.symm; simp only at this; omega)); have hs7 := hg7.size; clear hg7)
      refine ⟨⟨k + 1, by first | rfl | simp, by omega, Lib.hid ?_, hb7, by omega, hc27⟩, by simp [intOf]; omega⟩
      rw [hnx.out, show 1 + (k + 1) = nk + 1 by rw [hnk.out]; omega, List.map_append]
      exact ho7
    · obtain rfl : k = p.clears.length := by omega
      rw [List.take_length] at hown
      have hbE := hb
      have hszE := hszw
      have hownE := hown
      have c2E := hc2.out
      clear hlt hown hb hc2
      go_wp2
      go_loopw [3, 35] (fun v iv wx => ∃ k : Nat, iv = .int .i64 k ∧ k ≤ p.rels.length ∧ Hid (wx.ownsRow (w.heap.size + 1) 9 1 v ((1 + p.clears.length) + k) (((dS p.dflt :: p.clears.map cS) ++ (p.rels.take k).map rS).map strL)) ∧ Hid (Below w.heap.size w wx) ∧ w.heap.size + 1 ≤ wx.heap.size) (fun _ iv _ => p.rels.length - (intOf iv).toNat)
      case atStart => exact ⟨0, rfl, by omega, Lib.hid (by simpa using hownE.out), hbE, hszE⟩
      case round =>
        obtain ⟨k, rfl, hk, hown, hb, hszw⟩ := hrel
        by_cases hlt : k < p.rels.length
        · have hltI : (k : Int) < p.rels.length := by omega
          obtain ⟨g, o, rfl, hr⟩ := (hpt.out wr hb.out).re.elt k hlt
          have hm := List.getElem_mem hlt
          have hxl := hlr.out _ hm
          have hxa := hok.out.adrR hm
          have hx4 := (hok.out.r _ hm).2
          have hnx : Hid (((dS p.dflt :: p.clears.map cS) ++ (p.rels.take (k + 1)).map rS) = ((dS p.dflt :: p.clears.map cS) ++ (p.rels.take k).map rS) ++ [rS p.rels[k]]) := Lib.hid (by rw [List.take_succ_eq_append_getElem hlt, List.map_append, List.append_assoc]; rfl)
          have hwi : IntKind.i64.wrap ((k : Int) + 1) = (k : Int) + 1 := by simp [IntKind.wrap, IntKind.bits, IntKind.signed]; omega
          generalize p.rels[k] = x at *
          replace hr := Lib.hid hr
          obtain ⟨nk, hnk⟩ : ∃ nk, Hid (nk = (1 + p.clears.length) + k) := ⟨_, Lib.hid rfl⟩
          rw [← hnk.out] at hown
          have hnk2 : nk ≤ 3000 := by rw [hnk.out]; omega
          generalize ((dS p.dflt :: p.clears.map cS) ++ (p.rels.take k).map rS) = pre at *
          have hne : ∀ j, (.nilIface : Value).ownBlock = some j → True := fun _ _ => trivial
          obtain ⟨av, cv, rfl⟩ := own_sliceV hown.out
          have hlo : ∀ j, (Value.slice av nk cv).ownBlock = some j → w.heap.size + 1 ≤ j := fun j e => (hown.out.lt _ e).1
          have hx1 : (relC x).all (·.oneCell') = true := relC_one x
          have hsw := hb.out.size
          have hln := rS_len x hxa hx4
          have hnm := Lib.hid fun W => name_any x.1 hxa W
          have htx0 := Lib.hid fun W (hb : Below w.heap.size w W) => text_any x.2.2 W (hTt.out W hb).tab
          have hnu0 := Lib.hid fun W (hb : Below w.heap.size w W) => fmt_any x.2.1 hx4 W (hTt.out W hb).pow10
          have hJ := Lib.hid fun W q hr hq => join_any (lineR x) 4 rfl (by decide) hln W q hr hq
          have hpt2 : ∀ (j : Nat) (v : Value), (adrC x.1)[j]? = some v → (relC x)[j]? = some v := fun j v h => pre_get h
          have h20 : (relC x)[20]? = some (.int .u32 x.2.1) := by have := (relC_get x hxa).1; rw [List.getElem?_toArray] at this; exact this
          have h21 : (relC x)[21]? = some (.int .u64 (iv64 x.2.2)) := by have := (relC_get x hxa).2; rw [List.getElem?_toArray] at this; exact this
          have hla : (adrC x.1).length = 20 := by rw [adrC_len, hxa.len]
          unfold lineR at hJ
          change Hid (((dS p.dflt :: p.clears.map cS) ++ (p.rels.take (k + 1)).map rS) = pre ++ [Lib.join (lineR x) [32]]) at hnx
          unfold lineR at hnx hln
          unfold strL at htx0
          unfold adrV at hnm
          generalize hlnn : Lib.join [wRelease, hexN x.1, Lib.decDigits x.2.1, textL x.2.2] [32] = ln at *
          generalize Lib.decDigits x.2.1 = nu at *
          generalize textL x.2.2 = tx at *
          generalize hexN x.1 = nm at *
          generalize iv64 x.2.2 = lx at *
          generalize adrC x.1 = la at *
          generalize hen : x.2.1 = en at *
          have hcv : IntKind.u64.wrap (en : Int) = (en : Int) := by simp [IntKind.wrap, IntKind.bits, IntKind.signed]; omega
          generalize relC x = xc at *
          clear hm hlnn hen
          go_upto_region 10 with (first
            | (refine wpList_load_mid rfl 67 _ rfl g (o + k * 22) rfl xc _ hr.out Tryz.underlying67 rfl (by rw [hxl]; kernel_rfl) ?_)
            | (refine wpList_store_blkG rfl 67 _ _ rfl wr.heap.size rfl 67 [.int .u8 0, .int .u8 0, .int .u8 0, .int .u8 0, .int .u8 0, .int .u8 0, .int .u8 0, .int .u8 0, .int .u8 0, .int .u8 0, .int .u8 0, .int .u8 0, .int .u8 0, .int .u8 0, .int .u8 0, .int .u8 0, .int .u8 0, .int .u8 0, .int .u8 0, .int .u8 0, .int .u32 0, .int .u64 0] xc (BlkG.new wr _ _) rfl (by rw [hxl]; rfl) (by rw [hxl]; kernel_rfl) hx1 ?_; intro w5 hB5 ho5; have hb5 := ho5.below (xalloc (xrefl wr) _) (xalloc (xrefl wr) (.cells ([.int .u8 0, .int .u8 0, .int .u8 0, .int .u8 0, .int .u8 0, .int .u8 0, .int .u8 0, .int .u8 0, .int .u8 0, .int .u8 0, .int .u8 0, .int .u8 0, .int .u8 0, .int .u8 0, .int .u8 0, .int .u8 0, .int .u8 0, .int .u8 0, .int .u8 0, .int .u8 0, .int .u32 0, .int .u64 0]).toArray 67)).size (by rintro k rfl; exact Nat.le_refl _); clear ho5))
          obtain ⟨h, hh⟩ : ∃ h, Hid (h = wr.heap.size) := ⟨_, Lib.hid rfl⟩
          rw [← hh.out] at hB5 ⊢
          have hown5 := Lib.hid (own_belowV hown.out hb5)
          have hs5 := hb5.size
          have hbw5 := Lib.hid (xtrans hb.out hb5)
          have hld : Hid (∀ W, Below w5.heap.size w5 W → W.rangeAt h 0 la) := Lib.hid fun W hb j u hj => by
            have := cbel hb (blk_cell hB5 (hpt2 j u hj))
            simpa using this
          have hce : Hid (∀ W, Below w5.heap.size w5 W → W.cell? ⟨h, 20, none⟩ = some (.int .u32 en)) := Lib.hid fun W hb => cbel hb (blk_cell hB5 h20)
          have hcx : Hid (∀ W, Below w5.heap.size w5 W → W.cell? ⟨h, 21, none⟩ = some (.int .u64 lx)) := Lib.hid fun W hb => cbel hb (blk_cell hB5 h21)
          have hnu := Lib.hid fun W (hb : Below w5.heap.size w5 W) => hnu0.out W (xtrans hbw5.out hb)
          have htx := Lib.hid fun W (hb : Below w5.heap.size w5 W) => htx0.out W (xtrans hbw5.out hb)
          clear hB5 hb5 hown hr
          refine' wp_region_growL 14 [fixd (.slice av nk cv), fixd (.pointer (some ⟨h, 0, none⟩)), fixd (.agg la.toArray), fixd (.string ⟨nm.toArray⟩), fixd (.pointer (some ⟨h, 20, none⟩)), fixd (.int .u32 en), fixd (.int .u64 en), fixd (.string ⟨nu.toArray⟩), fixd (.pointer (some ⟨h, 21, none⟩)), fixd (.int .u64 lx), fixd (.string ⟨tx.toArray⟩), strT [wRelease, nm, nu, tx] 4, fixd (.string ⟨ln.toArray⟩), strT [ln] 1] (by kernel_rfl) (by kernel_rfl) ?_
          simp only [List.take_succ_cons, List.take_zero, List.drop_succ_cons, List.drop_zero]
          try simp only [Act.put, List.setIfInBounds_toArray, List.set_cons_succ, List.set_cons_zero, List.nil_append, List.cons_append]
          apply wpGrowV_fix (.slice av nk cv) rfl rfl
          · intro W hb hF
            go_simp
            first | exact xrefl W | exact ⟨rfl, xrefl W⟩ | exact ⟨by omega, xrefl W⟩
          try simp only [Act.put, List.setIfInBounds_toArray, List.set_cons_succ, List.set_cons_zero, List.nil_append, List.cons_append]
          apply wpGrowV_fix (.pointer (some ⟨h, 0, none⟩)) rfl rfl
          · intro W hb hF
            go_simp
            first | exact xrefl W | exact ⟨rfl, xrefl W⟩ | exact ⟨by omega, xrefl W⟩
          try simp only [Act.put, List.setIfInBounds_toArray, List.set_cons_succ, List.set_cons_zero, List.nil_append, List.cons_append]
          apply wpGrowV_fix (.agg la.toArray) rfl rfl
          · intro W hb hF
            rw [run_load_midV 29 _ rfl h 0 rfl la _ (by have := hld.out W hb; simpa using this) Tryz.underlying29 rfl (by rw [hla]; kernel_rfl)]
            exact ⟨rfl, xrefl W⟩
          try simp only [Act.put, List.setIfInBounds_toArray, List.set_cons_succ, List.set_cons_zero, List.nil_append, List.cons_append]
          apply wpGrowV_fix (.string ⟨nm.toArray⟩) rfl rfl
          · intro W hb hF
            go_simp
            go_at_call 20
            refine (hnm.out W).mono ?_
            rintro e w' ⟨rfl, hb'⟩
            exact ⟨rfl, hb'⟩
          try simp only [Act.put, List.setIfInBounds_toArray, List.set_cons_succ, List.set_cons_zero, List.nil_append, List.cons_append]
          apply wpGrowV_fix (.pointer (some ⟨h, 20, none⟩)) rfl rfl
          · intro W hb hF
            go_simp
            first | exact xrefl W | exact ⟨rfl, xrefl W⟩ | exact ⟨by omega, xrefl W⟩
          try simp only [Act.put, List.setIfInBounds_toArray, List.set_cons_succ, List.set_cons_zero, List.nil_append, List.cons_append]
          apply wpGrowV_fix (.int .u32 en) rfl rfl
          · intro W hb hF
            have c := hce.out W hb
            go_simp
            first | exact xrefl W | exact ⟨rfl, xrefl W⟩
          try simp only [Act.put, List.setIfInBounds_toArray, List.set_cons_succ, List.set_cons_zero, List.nil_append, List.cons_append]
          apply wpGrowV_fix (.int .u64 en) rfl rfl
          · intro W hb hF
            go_simp
            first | exact xrefl W | exact ⟨rfl, xrefl W⟩ | exact ⟨by omega, xrefl W⟩
          try simp only [Act.put, List.setIfInBounds_toArray, List.set_cons_succ, List.set_cons_zero, List.nil_append, List.cons_append]
          apply wpGrowV_fix (.string ⟨nu.toArray⟩) rfl rfl
          · intro W hb hF
            go_simp
            go_at_call 106
            refine (hnu.out W hb).mono ?_
            rintro e w' ⟨rfl, hb'⟩
            exact ⟨rfl, hb'⟩
          try simp only [Act.put, List.setIfInBounds_toArray, List.set_cons_succ, List.set_cons_zero, List.nil_append, List.cons_append]
          apply wpGrowV_fix (.pointer (some ⟨h, 21, none⟩)) rfl rfl
          · intro W hb hF
            go_simp
            first | exact xrefl W | exact ⟨rfl, xrefl W⟩ | exact ⟨by omega, xrefl W⟩
          try simp only [Act.put, List.setIfInBounds_toArray, List.set_cons_succ, List.set_cons_zero, List.nil_append, List.cons_append]
          apply wpGrowV_fix (.int .u64 lx) rfl rfl
          · intro W hb hF
            have c := hcx.out W hb
            go_simp
            first | exact xrefl W | exact ⟨rfl, xrefl W⟩
          try simp only [Act.put, List.setIfInBounds_toArray, List.set_cons_succ, List.set_cons_zero, List.nil_append, List.cons_append]
          apply wpGrowV_fix (.string ⟨tx.toArray⟩) rfl rfl
          · intro W hb hF
            go_simp
            go_at_call 104
            refine (htx.out W hb).mono ?_
            rintro e w' ⟨rfl, hb'⟩
            exact ⟨rfl, hb'⟩
          try simp only [Act.put, List.setIfInBounds_toArray, List.set_cons_succ, List.set_cons_zero, List.nil_append, List.cons_append]
          refine wpGrowV_any (strT [wRelease, nm, nu, tx] 4) rfl rfl ?_ ?_
          · intro W hb hF
            go_simp
            exact ⟨⟨⟨_, rfl⟩, fun b e => by cases e; exact ⟨rowV_new W 9 ([wRelease, nm, nu, tx].map strL), by rw [World.size_alloc]; omega⟩⟩, xalloc (xrefl W) _⟩
          rintro v hv
          obtain ⟨q11, rfl⟩ := hv
          try simp only [Act.put, List.setIfInBounds_toArray, List.set_cons_succ, List.set_cons_zero, List.nil_append, List.cons_append]
          apply wpGrowV_fix (.string ⟨ln.toArray⟩) rfl rfl
          · intro W hb hF
            have hq := hF 11 (by kernel_rfl) (by simp)
            obtain ⟨hr, hlt⟩ := (show ∀ b : Nat, Value.slice (some ⟨q11, 0, none⟩) 4 4 = .slice (some ⟨b, 0, none⟩) 4 4 → RowV W (some ⟨b, 0, none⟩) ([wRelease, nm, nu, tx].map strL) ∧ b < W.heap.size from hq) q11 rfl
            go_simp
            go_at_call 105
            refine (hJ.out W q11 hr hlt).mono ?_
            rintro e w' ⟨rfl, hb'⟩
            exact ⟨rfl, hb'⟩
          try simp only [Act.put, List.setIfInBounds_toArray, List.set_cons_succ, List.set_cons_zero, List.nil_append, List.cons_append]
          refine wpGrowV_any (strT [ln] 1) rfl rfl ?_ ?_
          · intro W hb hF
            go_simp
            exact ⟨⟨⟨_, rfl⟩, fun b e => by cases e; exact ⟨rowV_new W 9 ([ln].map strL), by rw [World.size_alloc]; omega⟩⟩, xalloc (xrefl W) _⟩
          rintro v hv
          obtain ⟨q13, rfl⟩ := hv
          try simp only [Act.put, List.setIfInBounds_toArray, List.set_cons_succ, List.set_cons_zero, List.nil_append, List.cons_append]
          refine wpGrowV_nil fun W6 hb6 hmem => ?_
          have h9 := hmem 13 (by decide)
          obtain ⟨hr9, hq9⟩ := (show ∀ b : Nat, Value.slice (some ⟨q13, 0, none⟩) 1 1 = .slice (some ⟨b, 0, none⟩) 1 1 → RowV W6 (some ⟨b, 0, none⟩) ([ln].map strL) ∧ b < W6.heap.size from h9) q13 rfl
          have hown6 := Lib.hid (own_belowV hown5.out hb6)
          have hs6 := hb6.size
          have hbw6 := Lib.hid (xtrans hbw5.out hb6)
          have hsz6 : w.heap.size + 1 ≤ W6.heap.size := by omega
          replace hr9 := Lib.hid hr9
          clear hmem h9 hown5 hld hcx htx hJ hce hnu
          go_wp2_with (at_builtin; refine wpList_append_vals W6 rfl _ _ 71 rfl (w.heap.size + 1) 9 i0 (.string ⟨#[]⟩) 1 16 Tryz.underlying71 hi0 hz0 hz1 hz2 rfl (by decide) _ nk _ rfl hown6.out (some ⟨q13, 0, none⟩) 1 1 [strL ln] rfl (by simp) rfl hr9.out (by simp [strL, Value.oneCell']) (by unfold maxLen; omega) (by omega) hsz6 ?_; intro v7 w7 ho7 hg7; have hb7 := Lib.hid (hbw6.out.grown hg7 (by omega) (fun j hj => Nat.le_of_succ_le (hlo j hj))); have hs7 := hg7.size; clear hg7)
          refine ⟨⟨k + 1, by first | rfl | simp, by omega, Lib.hid ?_, hb7, by omega⟩, by simp [intOf]; omega⟩
          rw [hnx.out, show (1 + p.clears.length) + (k + 1) = nk + 1 by rw [hnk.out]; omega, List.map_append]
          exact ho7
        · obtain rfl : k = p.rels.length := by omega
          rw [List.take_length] at hown
          clear hlt
          go_wp2
          go_ret
          refine ⟨⟨_, rfl, ?_⟩, hb.out⟩
          rw [linesF_eq, ← List.cons_append, List.length_append, List.length_cons, List.length_map, List.length_map, Nat.add_comm p.clears.length 1]
          exact hown.out
end Go.Proofs.YthpallkphamobaaGreatDoor
