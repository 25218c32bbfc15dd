/- The program's walk, and what it reaches. The chapter's rows (flow): works. -/
import Derived.Test.YtijkdabmegbcjaaDoorM30
import Derived.Test.YtijkdabmegbcjaaDoorM25
set_option linter.all false
namespace Go.Proofs.YtijkdabmegbcjaaDoor
open Go.RowKit Go.Shelf
attribute [local go_sem] Oper.semAt_some

theorem MapB.mono {lo lo' : Nat} {w : World} {mb : Nat} {bs : List BlkN} (h : MapB lo w mb bs) (hl : lo' ≤ lo) : MapB lo' w mb bs := by
  obtain ⟨l, h1, h2, h3⟩ := h
  refine ⟨l, h1, h2, fun j hj => ?_⟩
  obtain ⟨p, q, e, hI, hx⟩ := h3 j hj
  exact ⟨p, q, e, hI, fun h0 x e => Nat.le_trans hl (hx h0 x e)⟩
theorem WkAt.below {cs : List Nat} {n : Int} {mbx nbx mb lo : Nat} {w w' : World} (h : WkAt cs n mbx nbx mb lo w) (hb : Below w.heap.size w w') : WkAt cs n mbx nbx mb lo w' :=
  ⟨cbel hb h.box, cbel hb h.num, h.map.below hb, h.lbx, h.lnx, h.lmb, h.len⟩
theorem blksN_sep (cs : List Nat) : ∀ i j (hi : i < j) (hj : j < (blksN cs).length), ((blksN cs)[i]'(by omega)).first ≠ (blksN cs)[j].first := by
  have hs : SL (grps cs).flatten := by rw [grps_join]; exact opsL_sl cs
  have hp := (List.pairwise_flatten.1 hs).2
  intro i j hi hj
  have hj' : j < (grps cs).length := by simpa [blksN] using hj
  have h := List.pairwise_iff_getElem.1 hp i j (by omega) hj' hi _ (fst_mem (grps_ne (List.getElem_mem (by omega)))) _ (fst_mem (grps_ne (List.getElem_mem hj')))
  have e : ∀ t (ht : t < (blksN cs).length), (blksN cs)[t].first = fstN ((grps cs)[t]'(by simpa [blksN] using ht)) := fun t ht => by simp only [blksN, List.getElem_map]; rfl
  rw [e, e]
  exact Nat.ne_of_lt h
set_option maxRecDepth 100000 in
theorem walk_any (cs : List Nat) (n : Int) (a : Option Addr) (c : Nat) (w : World) (h : CodeAt w a c cs) (hl : cs.length ≤ 200) :
    Calls Tryd.prog 21 #[.slice a cs.length c, .int .i64 n] w fun e w' => (∃ mbx nbx mb, e = .returned (.func (.func 36) #[] #[.pointer (some ⟨mbx, 0, none⟩), .pointer (some ⟨nbx, 0, none⟩)]) ∧ WkAt cs n mbx nbx mb w.heap.size w') ∧ Below w.heap.size w w' := by
  have hb0 : Hid (Below w.heap.size w (w.alloc (.cells #[.int .i64 n] 3))) := Lib.hid (xalloc (xrefl w) _)
  have hs0 : (w.alloc (.cells #[.int .i64 n] 3)).heap.size = w.heap.size + 1 := World.size_alloc _ _
  have hn0 : Hid ((w.alloc (.cells #[.int .i64 n] 3)).cell? ⟨w.heap.size, 0, none⟩ = some (.int .i64 n)) := Lib.hid (Box.new w _ _).cell
  have hbl := Lib.hid (blocks_own cs a c _ (h.below hb0.out))
  have hgl : (blksN cs).length ≤ 200 := by have := grps_len cs; unfold blksN; rw [List.length_map]; omega
  replace hs0 := Lib.hid hs0
  replace h := Lib.hid h
  go_enter Tryd.func21, Tryd.ntmps21
  go_wp2_with (first
    | (go_at_call 5; refine hbl.out.mono ?_; rintro e w2 ⟨⟨v, rfl, hown⟩, hb2⟩; obtain ⟨a2, c2, rfl, -, -⟩ := hown.rows; replace hown := Lib.hid hown; replace hb2 := Lib.hid hb2)
    | (go_at_call 35; refine (all_any (blksN cs) a2 c2 w2 _ hown.out hgl (blksN_sep cs)).mono ?_; rintro e w3 ⟨⟨rfl, hM⟩, hb3⟩; replace hM := Lib.hid hM; replace hb3 := Lib.hid hb3))
  go_ret
  have hs := hs0.out
  have hle := hb2.out.size
  have hle3 := hb3.out.size
  have hb4 : Below w3.heap.size w3 (w3.alloc (.cells #[.map (some w2.heap.size)] 76)) := xalloc (xrefl _) _
  have hw3 := xtrans (xtrans hb0.out hb2.out) hb3.out
  refine ⟨⟨w3.heap.size, w.heap.size, w2.heap.size, rfl, ⟨(Box.new w3 _ _).cell, cbel hb4 (cbel (xtrans hb2.out hb3.out) hn0.out), ((hM.out.below hb4).mono (by omega)), by omega, Nat.le_refl _, by omega, hl⟩⟩, xtrans hw3 hb4⟩
theorem own_low {w : World} {base : Nat} {e : TypeId} {size : Nat} {v : Value} {n : Nat} {xs : List Value} (h : w.ownsRow base e size v n xs) {g : Nat} (hg : v.ownBlock = some g) : base ≤ g := by
  rcases h.2 with ⟨rfl, -⟩ | ⟨b, cap, cur, rfl, hb, -⟩
  · cases hg
  · have : b = g := Option.some.inj hg
    omega
def RcS (a : Nat) (K : List Nat) (S : Nat → Prop) (W : World) : Prop := (∀ j, S j → j < W.heap.size) ∧ S a ∧ S (a + 1) ∧ Box W (a + 1) (.map (some a)) 26 ∧ OneAt W a K
theorem RcS.fac {a : Nat} {K : List Nat} {S : Nat → Prop} : Fac S (RcS a K S) :=
  ⟨fun W W' ⟨h1, h2, h3, h4, h5⟩ hz hs => ⟨fun j hj => Nat.lt_of_lt_of_le (h1 j hj) hz, h2, h3, (hs _ h3 (h1 _ h3)).trans h4, by
    obtain ⟨l, e, h6⟩ := h5
    exact ⟨l, (hs _ h2 (h1 _ h2)).trans e, h6⟩⟩, fun W h => h.1⟩
def rcK (cs : List Nat) (n : Int) (k : Nat) : List Nat := addAll [] (((walkZ cs n).take k).map (·.1))
set_option maxRecDepth 100000 in
set_option maxHeartbeats 2000000 in
theorem reach_any (cs : List Nat) (n : Int) (a : Option Addr) (c : Nat) (w : World) (h : CodeAt w a c cs) (hl : cs.length ≤ 200) :
    Calls Tryd.prog 13 #[.slice a cs.length c, .int .i64 n] w fun e w' => (∃ v, e = .returned v ∧ OwnI w w' v (reachZ cs n)) ∧ Below w.heap.size w w' := by
  have hmm : ∀ w, (Instr.makeMap 26 none).run Tryd.prog w = .ok (.map (some w.heap.size)) (w.alloc (mapI .i64 [])) := fun _ => rfl
  have hb0 : Hid (Below w.heap.size w ((w.alloc (mapI .i64 [])).alloc (.cells #[.map (some w.heap.size)] 26))) := Lib.hid (xalloc (xalloc (xrefl w) _) _)
  have hwk := Lib.hid (walk_any cs n a c _ (h.below hb0.out) hl)
  have hs0 : ((w.alloc (mapI .i64 [])).alloc (.cells #[.map (some w.heap.size)] 26)).heap.size = w.heap.size + 2 := by simp
  have hS0 : Hid (RcS w.heap.size [] (fun j => j = w.heap.size ∨ j = w.heap.size + 1) ((w.alloc (mapI .i64 [])).alloc (.cells #[.map (some w.heap.size)] 26))) := Lib.hid ⟨by rintro j (rfl | rfl) <;> omega, .inl rfl, .inr rfl, by have := Box.new (w.alloc (mapI .i64 [])) (.map (some w.heap.size)) 26; rwa [World.size_alloc] at this, (OneAt.new w).below (xalloc (xrefl _) _)⟩
  replace hs0 := Lib.hid hs0
  refine (callsIn_wide (n := 0)).1 ?_
  refine callsIn_of_wp_marks Tryd.func13 rfl trivial ?_ rfl
  simp only [Tryd.ntmps13, List.size_toArray, List.length_cons, List.length_nil, Nat.reduceAdd, Nat.reduceSub, Array.replicate_succ, Array.replicate_zero, List.push_toArray, List.append_toArray, List.nil_append, List.cons_append]
  refine wpIn_wide.2 ?_
  go_wp2_with (first
    | (refine wpList_mk rfl 26 rfl ?_)
    | (go_at_call 21; refine hwk.out.mono ?_; rintro e w1 ⟨⟨mbx, nbx, mb, rfl, hW⟩, hb1⟩; replace hW := Lib.hid hW; replace hb1 := Lib.hid hb1))
  refine (wpIn_wide (n := 0)).1 ?_
  have hs := hs0.out
  have hle := hb1.out.size
  have hw0 := xtrans hb0.out hb1.out
  have hWk := hW.out
  rw [hs] at hWk hle
  have hnl : Hid (∀ k, k ≤ (walkZ cs n).length → (rcK cs n k).Nodup) := Lib.hid fun k _ => nodup_addAll _ List.nodup_nil
  have hrk : Hid (∀ k (hk : k < (walkZ cs n).length), rcK cs n (k + 1) = addK (rcK cs n k) (walkZ cs n)[k].1) := Lib.hid fun k hk => by
    unfold rcK
    rw [List.take_succ_eq_append_getElem hk, List.map_append, List.map_cons, List.map_nil, addAll_snoc]
  refine wp_rangeL (w0 := w) (gf := 36) (lb := #[.pointer (some ⟨mbx, 0, none⟩), .pointer (some ⟨nbx, 0, none⟩)]) rfl (enters_of Tryd.func36 (by kernel_rfl) rfl) (encs := encS) (Rd := WkRd (w.heap.size + 2) w1) (walkZ cs n)
    (fun k hk => hk.2) hw0 (fun W hW => walk_seq cs n mbx nbx mb _ w1 W hWk hW) (fun x => rfl) (fun k S W => RcS w.heap.size (rcK cs n k) S W) (fun _ _ _ _ => False) (fun k S => RcS.fac) (fun _ _ _ => ⟨fun _ _ h _ _ => h, fun _ h => h.elim⟩) (fun j => j = w.heap.size ∨ j = w.heap.size + 1)
    (fun j hj => ⟨by rcases hj with rfl | rfl <;> omega, fun hr => by have := hr.1; rcases hj with rfl | rfl <;> omega⟩) (RcS.fac.below hS0.out hb1.out) ?round ?done ?stop
  case round =>
    intro l0 k hk W
    have hst := hrk.out k hk
    unfold encS
    dsimp only
    generalize (walkZ cs n)[k] = x at *
    obtain ⟨x, d⟩ := x
    simp only [List.zip_toArray, List.zip_cons_cons, List.zip_nil_right, List.size_toArray, List.foldl_toArray', List.foldl_cons, List.foldl_nil, List.setIfInBounds_toArray, List.set_cons_succ, List.set_cons_zero]
    gi_wp2
    intro S W2 hb2 hzz _ hSo hS
    obtain ⟨h1, h2, h3, h4, l, h5, h6, h7⟩ := hS
    have hc4 := h4.cell
    replace hst := Lib.hid hst
    replace h1 := Lib.hid h1
    replace h4 := Lib.hid h4
    replace h5 := Lib.hid h5
    replace h6 := Lib.hid h6
    replace h7 := Lib.hid h7
    replace hSo := Lib.hid hSo
    clear hb2
    gi_wp2_with (refine wpListIn_putI rfl _ 3 3 .i64 _ _ _ rfl (by kernel_rfl) (by kernel_rfl) w.heap.size (x : Int) (.int .i64 1) l rfl rfl rfl h5.out ?_; intro w8 hm8 ho8; have hn8 := Lib.hid (OneAt.upd (W := w8) (bm := w.heap.size) h6.out h7.out x hm8); replace ho8 := Lib.hid ho8; clear hm8)
    refine ⟨ho8.out.mono fun _ _ e => by rw [e]; exact h2, S, fun j hj => .inl hj, fun j hj => Nat.lt_of_lt_of_le (h1.out j hj) ho8.out.size, h2, h3, h4.out.only ho8.out (by omega), ?_⟩
    rw [hst.out]; exact hn8.out
  case done =>
    intro D S W hD hSD hb _ hSw hS hK
    obtain ⟨h1, h2, h3, h4, l, h5, h6, h7⟩ := hS
    have hc4 := h4.cell
    have hKs : setL (rcK cs n (walkZ cs n).length) = reachZ cs n := by
      rw [reachZ_walk]; unfold rcK; rw [List.take_length, setL_addAll]
    have hnd := hnl.out _ (Nat.le_refl _)
    have hsort := sortedI_any l (rcK cs n (walkZ cs n).length) w.heap.size W h5 h6 hnd (by
      have := nodup_le hnd (n := cs.length) (fun x hx => by
        unfold rcK at hx
        rw [mem_addAll, List.take_length, List.mem_map] at hx
        rcases hx with hx | ⟨y, hy, rfl⟩
        · cases hx
        · exact walkZ_lt y hy)
      omega)
    rw [hKs] at hsort
    replace hsort := Lib.hid hsort
    replace hK := Lib.hid hK
    replace hb := Lib.hid hb
    clear h1 h4 h5 h6 h7 hSD hSw hKs hnd
    go_wp2_with (go_at_call 22; refine hsort.out.mono ?_; rintro e w6 ⟨⟨v6, rfl, hv6⟩, hb7⟩; replace hv6 := Lib.hid hv6; replace hb7 := Lib.hid hb7)
    have hK7 := (hb7.out.block D (Array.getElem?_eq_some_iff.1 hK.out).1).trans hK.out
    refine ⟨by simp [Act.put], .inl ⟨_, _, rfl, run_takeDeferred hK7, ?_⟩⟩
    have hput := (Only.refl (· = D) w6).putObj D (.deferred none) rfl
    have hDW := (Array.getElem?_eq_some_iff.1 hK.out).1
    refine ⟨_, results_tmp rfl _ _ _, ⟨_, rfl, ?_⟩, hput.below (xtrans hb.out hb7.out) (xtrans hb.out hb7.out).size (by rintro i rfl; omega)⟩
    have ho := hv6.out
    exact own_base (own_same ho fun g hg hl => hput.same g hl fun e => by have := own_low ho hg; omega) hb.out.size
  case stop =>
    intro D k c S W _ _ _ _ _ _ h
    exact h.elim
end Go.Proofs.YtijkdabmegbcjaaDoor
namespace Go.Proofs.YtijkdabmegbcjaaDoor
open Go.RowKit Go.Shelf

def worksC : List Nat := [96, 4, 86, 0, 91, 96, 1, 87, 0]
def worksB : List BlkN := [⟨0, 2, [4], false⟩, ⟨3, 3, [], true⟩, ⟨4, 7, [8], true⟩, ⟨8, 8, [], true⟩]
theorem worksB_eq : blksN worksC = worksB := by kernel_rfl
theorem worksF4 : fixedZ worksC 2 = some 4 := by kernel_rfl
theorem worksF1 : fixedZ worksC 7 = some 1 := by kernel_rfl
theorem worksA1 : atZ worksC 1 = none := by kernel_rfl
theorem worksA5 : atZ worksC 5 = some 4 := by kernel_rfl
theorem worksR : reachZ worksC 0 = [0, 4, 8] := by kernel_rfl
theorem wordV4 : wordV 4 = .agg #[.int .u64 4, .int .u64 0, .int .u64 0, .int .u64 0] := by kernel_rfl
theorem wordV1 : wordV 1 = .agg #[.int .u64 1, .int .u64 0, .int .u64 0, .int .u64 0] := by kernel_rfl
/-- A slice of blocks. -/
def blksT (bs : List BlkN) : Told := ⟨fun v => ∃ a c, v = .slice a bs.length c, fun v W => ∀ a c, v = .slice a bs.length c → BlksAt W a c bs, ⟨.slice none bs.length 0, none, 0, rfl⟩, fun v W W' h hb a c e => (h a c e).below hb⟩
/-- A slice of places. -/
def placeT (l : List Nat) : Told := ⟨fun v => ∃ a c, v = .slice a l.length c, fun v W => ∀ a c, v = .slice a l.length c → IntsAt W a c l, ⟨.slice none l.length 0, none, 0, rfl⟩, fun v W W' h hb a c e => (h a c e).below hb⟩
/-- A block, its next ones in a slice of their own. -/
def blkT (B : BlkN) : Told := ⟨fun v => ∃ b : Nat, v = .agg #[.int .i64 B.first, .int .i64 B.last, .slice (some ⟨b, 0, none⟩) B.next.length B.next.length, .bool B.exit],
  fun v W => ∀ b : Nat, v = .agg #[.int .i64 B.first, .int .i64 B.last, .slice (some ⟨b, 0, none⟩) B.next.length B.next.length, .bool B.exit] → IntsAt W (some ⟨b, 0, none⟩) B.next.length B.next, ⟨_, 0, rfl⟩, fun v W W' h hb b e => (h b e).below hb⟩
theorem rangeAt_new (W : World) (vs : List Value) (T : TypeId) (o : Nat) (cs : List Value) (h : ∀ j v, cs[j]? = some v → vs[o + j]? = some v) : (W.alloc (.cells vs.toArray T)).rangeAt W.heap.size o cs := fun j v hj => by
  rw [cell_of_row _ _ (o + j) _ T (0, 0) (World.alloc_heap_new W _)]
  simpa using h j v hj
theorem worksB_new (W : World) (b34 b37 : Nat) (h34 : IntsAt W (some ⟨b34, 0, none⟩) 1 [4]) (h37 : IntsAt W (some ⟨b37, 0, none⟩) 1 [8]) :
    BlksAt (W.alloc (.cells #[.int .i64 0, .int .i64 2, .slice (some ⟨b34, 0, none⟩) 1 1, .bool false, .int .i64 3, .int .i64 3, .slice none 0 0, .bool true, .int .i64 4, .int .i64 7, .slice (some ⟨b37, 0, none⟩) 1 1, .bool true, .int .i64 8, .int .i64 8, .slice none 0 0, .bool true] 29)) (some ⟨W.heap.size, 0, none⟩) 4 worksB := by
  have hb : Below W.heap.size W (W.alloc (.cells #[.int .i64 0, .int .i64 2, .slice (some ⟨b34, 0, none⟩) 1 1, .bool false, .int .i64 3, .int .i64 3, .slice none 0 0, .bool true, .int .i64 4, .int .i64 7, .slice (some ⟨b37, 0, none⟩) 1 1, .bool true, .int .i64 8, .int .i64 8, .slice none 0 0, .bool true] 29)) := xalloc (xrefl W) _
  refine ⟨fun i hi => ?_, fun e => by cases e⟩
  have hn : IntsAt (W.alloc (.cells #[.int .i64 0, .int .i64 2, .slice (some ⟨b34, 0, none⟩) 1 1, .bool false, .int .i64 3, .int .i64 3, .slice none 0 0, .bool true, .int .i64 4, .int .i64 7, .slice (some ⟨b37, 0, none⟩) 1 1, .bool true, .int .i64 8, .int .i64 8, .slice none 0 0, .bool true] 29)) none 0 [] := ⟨fun i hi => absurd hi (by simp [natI]), fun _ => rfl⟩
  match i, hi with
  | 0, _ => exact ⟨_, 0, _, _, rfl, rangeAt_new W _ _ _ _ (fun j v hj => by match j, hj with | 0, hj => exact hj | 1, hj => exact hj | 2, hj => exact hj | 3, hj => exact hj), h34.below hb⟩
  | 1, _ => exact ⟨_, 0, _, _, rfl, rangeAt_new W _ _ _ _ (fun j v hj => by match j, hj with | 0, hj => exact hj | 1, hj => exact hj | 2, hj => exact hj | 3, hj => exact hj), hn⟩
  | 2, _ => exact ⟨_, 0, _, _, rfl, rangeAt_new W _ _ _ _ (fun j v hj => by match j, hj with | 0, hj => exact hj | 1, hj => exact hj | 2, hj => exact hj | 3, hj => exact hj), h37.below hb⟩
  | 3, _ => exact ⟨_, 0, _, _, rfl, rangeAt_new W _ _ _ _ (fun j v hj => by match j, hj with | 0, hj => exact hj | 1, hj => exact hj | 2, hj => exact hj | 3, hj => exact hj), hn⟩
set_option maxRecDepth 100000 in
set_option maxHeartbeats 4000000 in
theorem works_any (w : World) : Calls Tryd.prog 4 #[] w fun e w' => e = .returned (.bool true) ∧ Below w.heap.size w w' := by
  have hb0 : Hid (Below w.heap.size w (w.alloc (.cells #[.int .u8 96, .int .u8 4, .int .u8 86, .int .u8 0, .int .u8 91, .int .u8 96, .int .u8 1, .int .u8 87, .int .u8 0] 5))) := Lib.hid (xalloc (xrefl w) _)
  have hC : Hid (CodeAt (w.alloc (.cells #[.int .u8 96, .int .u8 4, .int .u8 86, .int .u8 0, .int .u8 91, .int .u8 96, .int .u8 1, .int .u8 87, .int .u8 0] 5)) (some ⟨w.heap.size, 0, none⟩) 9 worksC) := Lib.hid ⟨rowAt_new w _ (natI worksC), (fun e => by cases e), by decide, by decide, by decide⟩
  have hf2 : Hid (∀ W, CodeAt W (some ⟨w.heap.size, 0, none⟩) 9 worksC → Calls Tryd.prog 9 #[.slice (some ⟨w.heap.size, 0, none⟩) 9 9, .int .i64 2] W fun e w' => e = .returned (.tuple #[.agg #[.int .u64 4, .int .u64 0, .int .u64 0, .int .u64 0], .bool true]) ∧ Below W.heap.size W w') := Lib.hid fun W h => by
    have := fixed_any worksC 2 _ 9 W h
    rw [worksF4] at this
    unfold optV at this
    rw [Option.getD_some, wordV4] at this
    exact this
  have hf7 : Hid (∀ W, CodeAt W (some ⟨w.heap.size, 0, none⟩) 9 worksC → Calls Tryd.prog 9 #[.slice (some ⟨w.heap.size, 0, none⟩) 9 9, .int .i64 7] W fun e w' => e = .returned (.tuple #[.agg #[.int .u64 1, .int .u64 0, .int .u64 0, .int .u64 0], .bool true]) ∧ Below W.heap.size W w') := Lib.hid fun W h => by
    have := fixed_any worksC 7 _ 9 W h
    rw [worksF1] at this
    unfold optV at this
    rw [Option.getD_some, wordV1] at this
    exact this
  have ha1 : Hid (∀ W, CodeAt W (some ⟨w.heap.size, 0, none⟩) 9 worksC → Calls Tryd.prog 7 #[.slice (some ⟨w.heap.size, 0, none⟩) 9 9, .int .i64 1] W fun e w' => e = .returned (.tuple #[.int .i64 0, .bool false]) ∧ Below W.heap.size W w') := Lib.hid fun W h => by
    have := at_any worksC 1 _ 9 W h
    rw [worksA1] at this
    exact this
  have ha5 : Hid (∀ W, CodeAt W (some ⟨w.heap.size, 0, none⟩) 9 worksC → Calls Tryd.prog 7 #[.slice (some ⟨w.heap.size, 0, none⟩) 9 9, .int .i64 5] W fun e w' => e = .returned (.tuple #[.int .i64 4, .bool true]) ∧ Below W.heap.size W w') := Lib.hid fun W h => by
    have := at_any worksC 5 _ 9 W h
    rw [worksA5] at this
    exact this
  go_enter Tryd.func4, Tryd.ntmps4
  go_wp2_with (first
    | (go_at_call 9; (with_reducible refine (hf2.out _ hC.out).mono ?_); rintro e w1 ⟨rfl, hb1⟩; have hC1 := Lib.hid (hC.out.below hb1); have hX0 := Lib.hid (BlkG.new w1 37 [.int .u64 0, .int .u64 0, .int .u64 0, .int .u64 0]); replace hb1 := Lib.hid hb1)
    | (refine wpList_store_blkG rfl 37 _ _ rfl w1.heap.size rfl 37 [.int .u64 0, .int .u64 0, .int .u64 0, .int .u64 0] [.int .u64 4, .int .u64 0, .int .u64 0, .int .u64 0] hX0.out rfl rfl (by kernel_rfl) rfl ?_; intro w2 hX2 ho2; have hb2 := Lib.hid (ho2.below (xalloc (xrefl w1) _) (xalloc (xrefl w1) _).size (by rintro k rfl; exact Nat.le_refl _)); replace hX2 := Lib.hid hX2; clear ho2; have hC2 := Lib.hid (hC1.out.below hb2.out))
    | (go_at_call 9; (with_reducible refine (hf7.out _ hC2.out).mono ?_); rintro e w3 ⟨rfl, hb3⟩; have hC3 := Lib.hid (hC2.out.below hb3); have hX3 := Lib.hid (BlkG.new w3 37 [.int .u64 0, .int .u64 0, .int .u64 0, .int .u64 0]); replace hb3 := Lib.hid hb3)
    | (refine wpList_store_blkG rfl 37 _ _ rfl w3.heap.size rfl 37 [.int .u64 0, .int .u64 0, .int .u64 0, .int .u64 0] [.int .u64 1, .int .u64 0, .int .u64 0, .int .u64 0] hX3.out rfl rfl (by kernel_rfl) rfl ?_; intro w4 hX4 ho4; have hb4 := Lib.hid (ho4.below (xalloc (xrefl w3) _) (xalloc (xrefl w3) _).size (by rintro k rfl; exact Nat.le_refl _)); replace hX4 := Lib.hid hX4; clear ho4; have hC4 := Lib.hid (hC3.out.below hb4.out))
    | (go_at_call 7; (with_reducible refine (ha1.out _ hC4.out).mono ?_); rintro e w5 ⟨rfl, hb5⟩; have hC5 := Lib.hid (hC4.out.below hb5); replace hb5 := Lib.hid hb5)
    | (go_at_call 7; (with_reducible refine (ha5.out _ hC5.out).mono ?_); rintro e w6 ⟨rfl, hb6⟩; have hC6 := Lib.hid (hC5.out.below hb6); replace hb6 := Lib.hid hb6))
  have hx1 : Hid (w6.rangeAt w3.heap.size 0 [.int .u64 1, .int .u64 0, .int .u64 0, .int .u64 0]) := Lib.hid (rangeAt_below (rangeAt_below hX4.out.range hb5.out) hb6.out)
  have hx4 : Hid (w6.rangeAt w1.heap.size 0 [.int .u64 4, .int .u64 0, .int .u64 0, .int .u64 0]) := Lib.hid (rangeAt_below (rangeAt_below (rangeAt_below (rangeAt_below hX2.out.range hb3.out) hb4.out) hb5.out) hb6.out)
  have hbb := Lib.hid (xtrans (xtrans (xtrans (xtrans (xtrans (xtrans hb0.out hb1.out) hb2.out) hb3.out) hb4.out) hb5.out) hb6.out)
  have hbl : Hid (∀ W, Below w6.heap.size w6 W → Calls Tryd.prog 5 #[.slice (some ⟨w.heap.size, 0, none⟩) 9 9] W fun e w' => MadeB W w' e worksB ∧ Below W.heap.size W w') := Lib.hid fun W h => by
    have := blocks_any worksC _ 9 W (hC6.out.below h)
    rw [worksB_eq] at this
    exact this
  have hrc : Hid (∀ W, Below w6.heap.size w6 W → Calls Tryd.prog 13 #[.slice (some ⟨w.heap.size, 0, none⟩) 9 9, .int .i64 0] W fun e w' => (∃ a c, e = .returned (.slice a 3 c) ∧ IntsAt w' a c [0, 4, 8]) ∧ Below W.heap.size W w') := Lib.hid fun W h => by
    have := reach_any worksC 0 _ 9 W (hC6.out.below h) (by decide)
    rw [worksR] at this
    refine this.mono ?_
    rintro e w' ⟨⟨v, rfl, ho⟩, hb⟩
    obtain ⟨a, c, rfl, hI, -⟩ := ho.at
    exact ⟨⟨a, c, rfl, hI⟩, hb⟩
  have hof4 : Hid (∀ W, Calls Tryd.prog 11 #[.int .u64 4] W fun e w' => e = .returned (.agg #[.int .u64 4, .int .u64 0, .int .u64 0, .int .u64 0]) ∧ Below W.heap.size W w') := Lib.hid fun W => by
    have := refOf_any 4 W (by decide)
    rw [wordV4] at this
    exact this
  have hof1 : Hid (∀ W, Calls Tryd.prog 11 #[.int .u64 1] W fun e w' => e = .returned (.agg #[.int .u64 1, .int .u64 0, .int .u64 0, .int .u64 0]) ∧ Below W.heap.size W w') := Lib.hid fun W => by
    have := refOf_any 1 W (by decide)
    rw [wordV1] at this
    exact this
  generalize hB1 : w3.heap.size = B1 at *
  generalize hB4 : w1.heap.size = B4 at *
  clear hf2 hf7 ha1 ha5 hC1 hC2 hC3 hC4 hC5 hC6 hb0 hb1 hb2 hb3 hb4 hb5 hb6 hX0 hX2 hX3 hX4 hC hB1 hB4
  refine' wp_region_growL 43 [fixd _, blksT worksB, rowT .i64 [4], blkT ⟨0, 2, [4], false⟩, fixd _, rowT .i64 [8], blkT ⟨4, 7, [8], true⟩, fixd _, blksT worksB, fixd (.bool true), fixd _, fixd (.agg #[.int .u64 4, .int .u64 0, .int .u64 0, .int .u64 0]), fixd (.agg #[.int .u64 4, .int .u64 0, .int .u64 0, .int .u64 0]), fixd (.bool true), fixd _, fixd _, fixd _, fixd _, fixd _, fixd (.agg #[.int .u64 1, .int .u64 0, .int .u64 0, .int .u64 0]), fixd (.agg #[.int .u64 1, .int .u64 0, .int .u64 0, .int .u64 0]), fixd (.bool true), fixd _, fixd _, fixd _, fixd _, fixd _, fixd _, fixd _, fixd _, fixd _, fixd _, fixd _, fixd _, fixd _, fixd _, fixd _, fixd _, fixd _, placeT [0, 4, 8], rowT .i64 [0, 4, 8], fixd (.bool true), fixd _] (by kernel_rfl) (by kernel_rfl) ?_
  rotate_left 27
  simp only [List.take_succ_cons, List.take_zero, List.drop_succ_cons, List.drop_zero]
  try simp only [Act.put, List.setIfInBounds_toArray, List.set_cons_succ, List.set_cons_zero, List.nil_append, List.cons_append]
  refine' wpGrowV_fix _ rfl rfl (fun W hb _ => by go_simp; first | exact xrefl W | exact ⟨rfl, xrefl W⟩) ?_
  try simp only [Act.put, List.setIfInBounds_toArray, List.set_cons_succ, List.set_cons_zero, List.nil_append, List.cons_append]
  refine wpGrowV_any (blksT worksB) rfl rfl (fun W hb _ => ?_) (fun v hv => ?_)
  · go_simp
    go_at_call 5
    refine (hbl.out W hb).mono ?_
    rintro e w' ⟨⟨p, q, rfl, hB, -⟩, hb'⟩
    exact ⟨_, rfl, ⟨⟨_, _, rfl⟩, fun a c e => by cases e; exact hB⟩, hb'⟩
  obtain ⟨pb, qb, rfl⟩ := hv
  try simp only [Act.put, List.setIfInBounds_toArray, List.set_cons_succ, List.set_cons_zero, List.nil_append, List.cons_append]
  refine wpGrowV_any (rowT .i64 [4]) rfl rfl (fun W hb _ => ?_) (fun v hv => ?_)
  · go_simp
    exact ⟨⟨⟨_, rfl⟩, fun b e => by cases e; exact rowAt_new W _ _⟩, xalloc (xrefl W) _⟩
  obtain ⟨q33, rfl⟩ := hv
  try simp only [Act.put, List.setIfInBounds_toArray, List.set_cons_succ, List.set_cons_zero, List.nil_append, List.cons_append]
  refine wpGrowV_any (blkT ⟨0, 2, [4], false⟩) rfl rfl (fun W hb hF => ?_) (fun v hv => ?_)
  · have h33 := hF 2 (by kernel_rfl) (by simp) q33 rfl
    clear hF
    go_simp
    exact ⟨⟨⟨_, rfl⟩, fun b e => by cases e; exact ⟨h33, fun e => by cases e⟩⟩, xrefl W⟩
  obtain ⟨b34, rfl⟩ := hv
  try simp only [Act.put, List.setIfInBounds_toArray, List.set_cons_succ, List.set_cons_zero, List.nil_append, List.cons_append]
  refine' wpGrowV_fix _ rfl rfl (fun W hb _ => by go_simp; first | exact xrefl W | exact ⟨rfl, xrefl W⟩) ?_
  try simp only [Act.put, List.setIfInBounds_toArray, List.set_cons_succ, List.set_cons_zero, List.nil_append, List.cons_append]
  refine wpGrowV_any (rowT .i64 [8]) rfl rfl (fun W hb _ => ?_) (fun v hv => ?_)
  · go_simp
    exact ⟨⟨⟨_, rfl⟩, fun b e => by cases e; exact rowAt_new W _ _⟩, xalloc (xrefl W) _⟩
  obtain ⟨q36, rfl⟩ := hv
  try simp only [Act.put, List.setIfInBounds_toArray, List.set_cons_succ, List.set_cons_zero, List.nil_append, List.cons_append]
  refine wpGrowV_any (blkT ⟨4, 7, [8], true⟩) rfl rfl (fun W hb hF => ?_) (fun v hv => ?_)
  · have h33 := hF 5 (by kernel_rfl) (by simp) q36 rfl
    clear hF
    go_simp
    exact ⟨⟨⟨_, rfl⟩, fun b e => by cases e; exact ⟨h33, fun e => by cases e⟩⟩, xrefl W⟩
  obtain ⟨b37, rfl⟩ := hv
  try simp only [Act.put, List.setIfInBounds_toArray, List.set_cons_succ, List.set_cons_zero, List.nil_append, List.cons_append]
  refine' wpGrowV_fix _ rfl rfl (fun W hb _ => by go_simp; first | exact xrefl W | exact ⟨rfl, xrefl W⟩) ?_
  try simp only [Act.put, List.setIfInBounds_toArray, List.set_cons_succ, List.set_cons_zero, List.nil_append, List.cons_append]
  refine wpGrowV_any (blksT worksB) rfl rfl (fun W hb hF => ?_) (fun v hv => ?_)
  · have h34 := hF 3 (by kernel_rfl) (by simp) b34 rfl
    have h37 := hF 6 (by kernel_rfl) (by simp) b37 rfl
    clear hF
    go_simp
    exact ⟨⟨⟨_, _, rfl⟩, fun a c e => by cases e; exact worksB_new W b34 b37 h34 h37⟩, xalloc (xrefl W) _⟩
  obtain ⟨pc, qc, rfl⟩ := hv
  try simp only [Act.put, List.setIfInBounds_toArray, List.set_cons_succ, List.set_cons_zero, List.nil_append, List.cons_append]
  refine wpGrowV_fix (.bool true) rfl rfl (fun W hb hF => ?_) ?_
  · have h32 := hF 1 (by kernel_rfl) (by simp) pb qb rfl
    have h39 := hF 8 (by kernel_rfl) (by simp) pc qc rfl
    clear hF
    go_simp
    go_at_call 10
    refine (refSame_any worksB _ _ _ _ W h32 h39 (by decide) (by decide)).mono ?_
    rintro e w' ⟨rfl, hb'⟩
    exact ⟨rfl, hb'⟩
  try simp only [Act.put, List.setIfInBounds_toArray, List.set_cons_succ, List.set_cons_zero, List.nil_append, List.cons_append]
  refine' wpGrowV_fix _ rfl rfl (fun W hb _ => by go_simp; first | exact xrefl W | exact ⟨rfl, xrefl W⟩) ?_
  try simp only [Act.put, List.setIfInBounds_toArray, List.set_cons_succ, List.set_cons_zero, List.nil_append, List.cons_append]
  refine wpGrowV_fix (.agg #[.int .u64 4, .int .u64 0, .int .u64 0, .int .u64 0]) rfl rfl (fun W hb _ => ?_) ?_
  · rw [run_load_midV 37 _ rfl B4 0 rfl [.int .u64 4, .int .u64 0, .int .u64 0, .int .u64 0] _ (rangeAt_below hx4.out hb) Tryd.underlying37 rfl (by kernel_rfl)]
    exact ⟨rfl, xrefl W⟩
  try simp only [Act.put, List.setIfInBounds_toArray, List.set_cons_succ, List.set_cons_zero, List.nil_append, List.cons_append]
  refine wpGrowV_fix (.agg #[.int .u64 4, .int .u64 0, .int .u64 0, .int .u64 0]) rfl rfl (fun W hb _ => ?_) ?_
  · go_simp
    go_at_call 11
    refine (hof4.out W).mono ?_
    rintro e w' ⟨rfl, hb'⟩
    exact ⟨rfl, hb'⟩
  try simp only [Act.put, List.setIfInBounds_toArray, List.set_cons_succ, List.set_cons_zero, List.nil_append, List.cons_append]
  refine wpGrowV_fix (.bool true) rfl rfl (fun W hb _ => ?_) ?_
  · rw [run_eql_at 37 _ (.tmp 42) (.tmp 43) rfl 35 4 .u64 .u64 [4, 0, 0, 0] [4, 0, 0, 0] rfl rfl Tryd.underlying37 Tryd.underlying35 (by kernel_rfl) (by kernel_rfl) (by kernel_rfl) rfl rfl, decide_eq_true rfl]
    exact ⟨rfl, xrefl W⟩
  try simp only [Act.put, List.setIfInBounds_toArray, List.set_cons_succ, List.set_cons_zero, List.nil_append, List.cons_append]
  refine' wpGrowV_fix _ rfl rfl (fun W hb _ => by go_simp; first | exact xrefl W | exact ⟨rfl, xrefl W⟩) ?_
  try simp only [Act.put, List.setIfInBounds_toArray, List.set_cons_succ, List.set_cons_zero, List.nil_append, List.cons_append]
  refine' wpGrowV_fix _ rfl rfl (fun W hb _ => by go_simp; first | exact xrefl W | exact ⟨rfl, xrefl W⟩) ?_
  try simp only [Act.put, List.setIfInBounds_toArray, List.set_cons_succ, List.set_cons_zero, List.nil_append, List.cons_append]
  first
    | (refine wpGrowV_not rfl rfl ?_)
    | (refine' wpGrowV_fix _ rfl rfl (fun W hb _ => by go_simp; first | exact xrefl W | exact ⟨rfl, xrefl W⟩) ?_)
  try simp only [Act.put, List.setIfInBounds_toArray, List.set_cons_succ, List.set_cons_zero, List.nil_append, List.cons_append]
  refine' wpGrowV_fix _ rfl rfl (fun W hb _ => by go_simp; first | exact xrefl W | exact ⟨rfl, xrefl W⟩) ?_
  try simp only [Act.put, List.setIfInBounds_toArray, List.set_cons_succ, List.set_cons_zero, List.nil_append, List.cons_append]
  refine' wpGrowV_fix _ rfl rfl (fun W hb _ => by go_simp; first | exact xrefl W | exact ⟨rfl, xrefl W⟩) ?_
  try simp only [Act.put, List.setIfInBounds_toArray, List.set_cons_succ, List.set_cons_zero, List.nil_append, List.cons_append]
  refine wpGrowV_fix (.agg #[.int .u64 1, .int .u64 0, .int .u64 0, .int .u64 0]) rfl rfl (fun W hb _ => ?_) ?_
  · rw [run_load_midV 37 _ rfl B1 0 rfl [.int .u64 1, .int .u64 0, .int .u64 0, .int .u64 0] _ (rangeAt_below hx1.out hb) Tryd.underlying37 rfl (by kernel_rfl)]
    exact ⟨rfl, xrefl W⟩
  try simp only [Act.put, List.setIfInBounds_toArray, List.set_cons_succ, List.set_cons_zero, List.nil_append, List.cons_append]
  refine wpGrowV_fix (.agg #[.int .u64 1, .int .u64 0, .int .u64 0, .int .u64 0]) rfl rfl (fun W hb _ => ?_) ?_
  · go_simp
    go_at_call 11
    refine (hof1.out W).mono ?_
    rintro e w' ⟨rfl, hb'⟩
    exact ⟨rfl, hb'⟩
  try simp only [Act.put, List.setIfInBounds_toArray, List.set_cons_succ, List.set_cons_zero, List.nil_append, List.cons_append]
  refine wpGrowV_fix (.bool true) rfl rfl (fun W hb _ => ?_) ?_
  · rw [run_eql_at 37 _ (.tmp 50) (.tmp 51) rfl 35 4 .u64 .u64 [1, 0, 0, 0] [1, 0, 0, 0] rfl rfl Tryd.underlying37 Tryd.underlying35 (by kernel_rfl) (by kernel_rfl) (by kernel_rfl) rfl rfl, decide_eq_true rfl]
    exact ⟨rfl, xrefl W⟩
  try simp only [Act.put, List.setIfInBounds_toArray, List.set_cons_succ, List.set_cons_zero, List.nil_append, List.cons_append]
  refine' wpGrowV_fix _ rfl rfl (fun W hb _ => by go_simp; first | exact xrefl W | exact ⟨rfl, xrefl W⟩) ?_
  try simp only [Act.put, List.setIfInBounds_toArray, List.set_cons_succ, List.set_cons_zero, List.nil_append, List.cons_append]
  refine' wpGrowV_fix _ rfl rfl (fun W hb _ => by go_simp; first | exact xrefl W | exact ⟨rfl, xrefl W⟩) ?_
  try simp only [Act.put, List.setIfInBounds_toArray, List.set_cons_succ, List.set_cons_zero, List.nil_append, List.cons_append]
  first
    | (refine wpGrowV_not rfl rfl ?_)
    | (refine' wpGrowV_fix _ rfl rfl (fun W hb _ => by go_simp; first | exact xrefl W | exact ⟨rfl, xrefl W⟩) ?_)
  try simp only [Act.put, List.setIfInBounds_toArray, List.set_cons_succ, List.set_cons_zero, List.nil_append, List.cons_append]
  refine' wpGrowV_fix _ rfl rfl (fun W hb _ => by go_simp; first | exact xrefl W | exact ⟨rfl, xrefl W⟩) ?_
  try simp only [Act.put, List.setIfInBounds_toArray, List.set_cons_succ, List.set_cons_zero, List.nil_append, List.cons_append]
  refine' wpGrowV_fix _ rfl rfl (fun W hb _ => by go_simp; first | exact xrefl W | exact ⟨rfl, xrefl W⟩) ?_
  try simp only [Act.put, List.setIfInBounds_toArray, List.set_cons_succ, List.set_cons_zero, List.nil_append, List.cons_append]
  first
    | (refine wpGrowV_not rfl rfl ?_)
    | (refine' wpGrowV_fix _ rfl rfl (fun W hb _ => by go_simp; first | exact xrefl W | exact ⟨rfl, xrefl W⟩) ?_)
  try simp only [Act.put, List.setIfInBounds_toArray, List.set_cons_succ, List.set_cons_zero, List.nil_append, List.cons_append]
  first
    | (refine wpGrowV_not rfl rfl ?_)
    | (refine' wpGrowV_fix _ rfl rfl (fun W hb _ => by go_simp; first | exact xrefl W | exact ⟨rfl, xrefl W⟩) ?_)
  try simp only [Act.put, List.setIfInBounds_toArray, List.set_cons_succ, List.set_cons_zero, List.nil_append, List.cons_append]
  refine' wpGrowV_fix _ rfl rfl (fun W hb _ => by go_simp; first | exact xrefl W | exact ⟨rfl, xrefl W⟩) ?_
  try simp only [Act.put, List.setIfInBounds_toArray, List.set_cons_succ, List.set_cons_zero, List.nil_append, List.cons_append]
  refine' wpGrowV_fix _ rfl rfl (fun W hb _ => by go_simp; first | exact xrefl W | exact ⟨rfl, xrefl W⟩) ?_
  try simp only [Act.put, List.setIfInBounds_toArray, List.set_cons_succ, List.set_cons_zero, List.nil_append, List.cons_append]
  first
    | (refine wpGrowV_not rfl rfl ?_)
    | (refine' wpGrowV_fix _ rfl rfl (fun W hb _ => by go_simp; first | exact xrefl W | exact ⟨rfl, xrefl W⟩) ?_)
  try simp only [Act.put, List.setIfInBounds_toArray, List.set_cons_succ, List.set_cons_zero, List.nil_append, List.cons_append]
  first
    | (refine wpGrowV_not rfl rfl ?_)
    | (refine' wpGrowV_fix _ rfl rfl (fun W hb _ => by go_simp; first | exact xrefl W | exact ⟨rfl, xrefl W⟩) ?_)
  try simp only [Act.put, List.setIfInBounds_toArray, List.set_cons_succ, List.set_cons_zero, List.nil_append, List.cons_append]
  refine' wpGrowV_fix _ rfl rfl (fun W hb _ => by go_simp; first | exact xrefl W | exact ⟨rfl, xrefl W⟩) ?_
  try simp only [Act.put, List.setIfInBounds_toArray, List.set_cons_succ, List.set_cons_zero, List.nil_append, List.cons_append]
  refine' wpGrowV_fix _ rfl rfl (fun W hb _ => by go_simp; first | exact xrefl W | exact ⟨rfl, xrefl W⟩) ?_
  try simp only [Act.put, List.setIfInBounds_toArray, List.set_cons_succ, List.set_cons_zero, List.nil_append, List.cons_append]
  first
    | (refine wpGrowV_not rfl rfl ?_)
    | (refine' wpGrowV_fix _ rfl rfl (fun W hb _ => by go_simp; first | exact xrefl W | exact ⟨rfl, xrefl W⟩) ?_)
  try simp only [Act.put, List.setIfInBounds_toArray, List.set_cons_succ, List.set_cons_zero, List.nil_append, List.cons_append]
  refine' wpGrowV_fix _ rfl rfl (fun W hb _ => by go_simp; first | exact xrefl W | exact ⟨rfl, xrefl W⟩) ?_
  try simp only [Act.put, List.setIfInBounds_toArray, List.set_cons_succ, List.set_cons_zero, List.nil_append, List.cons_append]
  refine' wpGrowV_fix _ rfl rfl (fun W hb _ => by go_simp; first | exact xrefl W | exact ⟨rfl, xrefl W⟩) ?_
  try simp only [Act.put, List.setIfInBounds_toArray, List.set_cons_succ, List.set_cons_zero, List.nil_append, List.cons_append]
  first
    | (refine wpGrowV_not rfl rfl ?_)
    | (refine' wpGrowV_fix _ rfl rfl (fun W hb _ => by go_simp; first | exact xrefl W | exact ⟨rfl, xrefl W⟩) ?_)
  try simp only [Act.put, List.setIfInBounds_toArray, List.set_cons_succ, List.set_cons_zero, List.nil_append, List.cons_append]
  refine wpGrowV_any (placeT [0, 4, 8]) rfl rfl (fun W hb _ => ?_) (fun v hv => ?_)
  · go_simp
    go_at_call 13
    refine (hrc.out W hb).mono ?_
    rintro e w' ⟨⟨a, c, rfl, hB⟩, hb'⟩
    exact ⟨_, rfl, ⟨⟨_, _, rfl⟩, fun a c e => by cases e; exact hB⟩, hb'⟩
  obtain ⟨pr, qr, rfl⟩ := hv
  try simp only [Act.put, List.setIfInBounds_toArray, List.set_cons_succ, List.set_cons_zero, List.nil_append, List.cons_append]
  first
    | (refine wpGrowV_not rfl rfl ?_)
    | (refine wpGrowV_any (rowT .i64 [0, 4, 8]) rfl rfl (fun W hb _ => ?_) (fun v hv => ?_)
       · go_simp
         exact ⟨⟨⟨_, rfl⟩, fun b e => by cases e; exact rowAt_new W _ _⟩, xalloc (xrefl W) _⟩
       obtain ⟨q71, rfl⟩ := hv)
  try simp only [Act.put, List.setIfInBounds_toArray, List.set_cons_succ, List.set_cons_zero, List.nil_append, List.cons_append]
  refine wpGrowV_fix (.bool true) rfl rfl (fun W hb hF => ?_) ?_
  · have h70 := hF 39 (by kernel_rfl) (by simp) pr qr rfl
    have h71 := hF 40 (by kernel_rfl) (by simp) q71 rfl
    clear hF
    go_simp
    go_at_call 12
    refine (refInts_any [0, 4, 8] [0, 4, 8] _ _ _ _ W h70 ⟨h71, fun e => by cases e⟩ (by decide) (by decide)).mono ?_
    rintro e w' ⟨rfl, k, rfl⟩
    exact ⟨rfl, xdrewN (xrefl W) k⟩
  try simp only [Act.put, List.setIfInBounds_toArray, List.set_cons_succ, List.set_cons_zero, List.nil_append, List.cons_append]
  refine' wpGrowV_fix _ rfl rfl (fun W hb _ => by go_simp; first | exact xrefl W | exact ⟨rfl, xrefl W⟩) ?_
  try simp only [Act.put, List.setIfInBounds_toArray, List.set_cons_succ, List.set_cons_zero, List.nil_append, List.cons_append]
  intro W hbW _
  go_wp2
  go_ret
  exact ⟨rfl, xtrans hbb.out hbW⟩
end Go.Proofs.YtijkdabmegbcjaaDoor
