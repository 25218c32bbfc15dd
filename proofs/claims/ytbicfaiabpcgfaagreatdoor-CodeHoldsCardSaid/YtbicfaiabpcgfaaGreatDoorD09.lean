/- Texts of this claim, merged; no condition. -/
import Derived.Test.YtbicfaiabpcgfaaGreatDoorD08
set_option linter.all false
namespace Go.Proofs.YtbicfaiabpcgfaaGreatDoor
open Go.RowKit Go.Shelf
attribute [local go_sem] Oper.semAt_some

/-- What code.Push holds: the code, the place, the word and whether it is there. -/
def PuS (w : World) (v : Value) (n : Int) (L : List Int) (b : Bool) (S : Nat → Prop) (W : World) : Prop :=
  Box W w.heap.size v 32 ∧ Box W (w.heap.size + 1) (.int .i64 n) 3 ∧ Blk .u64 W (w.heap.size + 1 + 1) 50 L ∧ Box W (w.heap.size + 1 + 1 + 1) (.bool b) 4 ∧ S = fun k => w.heap.size ≤ k ∧ k < w.heap.size + 4
theorem puS_fac {w : World} {v : Value} {n : Int} {L : List Int} {b : Bool} {S : Nat → Prop} : Fac S (PuS w v n L b S) :=
  ⟨fun W W' ⟨h1, h2, h3, h4, e⟩ hz hs => by
    subst e
    exact ⟨(hs _ ⟨by omega, by omega⟩ h1.lt).trans h1, (hs _ ⟨by omega, by omega⟩ h2.lt).trans h2, (hs _ ⟨by omega, by omega⟩ h3.lt).trans h3, (hs _ ⟨by omega, by omega⟩ h4.lt).trans h4, rfl⟩, fun W ⟨_, _, _, h4, e⟩ k hk => by
    subst e
    have := h4.lt
    obtain ⟨h1, h2⟩ := hk
    omega⟩
theorem results_wordB {fn : Func} {p q : Tmp} (h : fn.results = #[.cell p 50, .cell q 4]) (tmps : Array Value) (w : World) (b g : Nat) (L : List Int) (v : Value)
    (hp : tmps.getD p undef = .pointer (some ⟨b, 0, none⟩)) (hB : Blk .u64 w b 50 L) (hL : L.length = 4) (hq : tmps.getD q undef = .pointer (some ⟨g, 0, none⟩)) (hc : Box w g v 4) :
    (results fn tmps).run Tryz.prog w = .ok (.tuple #[.agg (L.map (Value.int .u64)).toArray, v]) w := by
  have hp' : tmps[p]?.getD undef = .pointer (some ⟨b, 0, none⟩) := by simpa using hp
  have hq' : tmps[q]?.getD undef = .pointer (some ⟨g, 0, none⟩) := by simpa using hq
  have hu := run_underlying Tryz.underlying4 w
  have hc' := hc.cell
  have e1 : (loadVar 4 ⟨g, 0, none⟩).run Tryz.prog w = .ok v w := by
    unfold loadVar isAgg
    simp [Sem.run_bind, hu, hc', Result.andThen_ok, Sem.run]
  have e2 : (loadVar 50 ⟨b, 0, none⟩).run Tryz.prog w = .ok (.agg (L.map (Value.int .u64)).toArray) w :=
    run_loadVar_row w b 50 50 _ (0, 0) _ hB Tryz.underlying50 rfl (by rw [List.size_toArray, List.length_map, hL]; kernel_rfl)
  simp [results, h, hp', hq', asAddr, e1, e2, Sem.run_bind]
/-- None of the first k ops is a PUSH at the place. -/
def notTo (cs : List Nat) (n : Int) (k : Nat) : Prop := ∀ j (h : j < (opsL cs).length), j < k → ¬ (((opsL cs)[j] : Int) = n ∧ 95 ≤ byN cs (opsL cs)[j] ∧ byN cs (opsL cs)[j] ≤ 127)
theorem push_none {cs : List Nat} {n : Int} (h : notTo cs n (opsL cs).length) : pushZ cs n = none := by
  unfold pushZ
  split
  · rename_i hi
    obtain ⟨k, hk, rfl⟩ := inN_true hi
    obtain ⟨j, hj, rfl⟩ := List.getElem_of_mem hk
    unfold pushV
    rw [if_neg]
    intro hb
    simp only [Int.toNat_natCast] at hb
    exact h j hj hj ⟨rfl, hb⟩
  · rfl
theorem push_some {cs : List Nat} {x : Nat} (hx : x ∈ opsL cs) (hb : 95 ≤ byN cs x ∧ byN cs x ≤ 127) : pushZ cs x = some (numN (restN cs x)) := by
  rw [pushZ_nat]
  unfold pushN pushV
  rw [if_pos hx, if_pos hb]
theorem notTo_succ {cs : List Nat} {n : Int} {k : Nat} (h : notTo cs n k) (hk : k < (opsL cs).length) (hn : ¬ (((opsL cs)[k] : Int) = n ∧ 95 ≤ byN cs (opsL cs)[k] ∧ byN cs (opsL cs)[k] ≤ 127)) : notTo cs n (k + 1) := fun j hj hjk => by
  by_cases e : j = k
  · subst e; exact hn
  · exact h j hj (by omega)
set_option maxRecDepth 100000 in
set_option maxHeartbeats 4000000 in
theorem push_any (cs : List Nat) (n : Int) (a : Option Addr) (c : Nat) (w : World) (h : CodeAt w a c cs) :
    Calls Tryz.prog 21 #[.slice a cs.length c, .int .i64 n] w fun e w' => e = .returned (optV (pushZ cs n)) ∧ Below w.heap.size w w' := by
  have hlen := h.len
  have hops := Lib.hid fun W => ops_any a cs.length c W
  have h0 : PuS w (.slice a cs.length c) n [0, 0, 0, 0] false (fun k => w.heap.size ≤ k ∧ k < w.heap.size + 4) ((((w.alloc (.cells #[.slice a cs.length c] 32)).alloc (.cells #[.int .i64 n] 3)).alloc (.cells #[.int .u64 0, .int .u64 0, .int .u64 0, .int .u64 0] 50)).alloc (.cells #[.bool false] 4)) := by
    refine ⟨((((Box.new w _ _).below (xalloc (xrefl _) _)).below (xalloc (xrefl _) _)).below (xalloc (xrefl _) _)), ?_, ?_, ?_, rfl⟩
    · have := Box.new (w.alloc (.cells #[.slice a cs.length c] 32)) (.int .i64 n) 3
      rw [World.size_alloc] at this
      exact (this.below (xalloc (xrefl _) _)).below (xalloc (xrefl _) _)
    · have := Blk.new (q := .u64) ((w.alloc (.cells #[.slice a cs.length c] 32)).alloc (.cells #[.int .i64 n] 3)) 50 [0, 0, 0, 0]
      rw [World.size_alloc, World.size_alloc] at this
      exact this.below (xalloc (xrefl _) _)
    · have := Box.new (((w.alloc (.cells #[.slice a cs.length c] 32)).alloc (.cells #[.int .i64 n] 3)).alloc (.cells #[.int .u64 0, .int .u64 0, .int .u64 0, .int .u64 0] 50)) (.bool false) 4
      rwa [World.size_alloc, World.size_alloc, World.size_alloc] at this
  have hb0 : Below w.heap.size w ((((w.alloc (.cells #[.slice a cs.length c] 32)).alloc (.cells #[.int .i64 n] 3)).alloc (.cells #[.int .u64 0, .int .u64 0, .int .u64 0, .int .u64 0] 50)).alloc (.cells #[.bool false] 4)) := xalloc (xalloc (xalloc (xalloc (xrefl w) _) _) _) _
  have hs0 : ((((w.alloc (.cells #[.slice a cs.length c] 32)).alloc (.cells #[.int .i64 n] 3)).alloc (.cells #[.int .u64 0, .int .u64 0, .int .u64 0, .int .u64 0] 50)).alloc (.cells #[.bool false] 4)).heap.size = w.heap.size + 4 := by simp
  obtain ⟨w0, hw0⟩ : ∃ w0, (((w.alloc (.cells #[.slice a cs.length c] 32)).alloc (.cells #[.int .i64 n] 3)).alloc (.cells #[.int .u64 0, .int .u64 0, .int .u64 0, .int .u64 0] 50)).alloc (.cells #[.bool false] 4) = w0 := ⟨_, rfl⟩
  rw [hw0] at h0 hb0 hs0
  have hxc := h0.1.cell
  replace hw0 := Lib.hid hw0
  replace hs0 := Lib.hid hs0
  refine (callsIn_wide (n := 0)).1 ?_
  refine callsIn_of_wp_marks Tryz.func21 rfl trivial ?_ rfl
  simp only [Tryz.ntmps21, List.size_toArray, List.length_cons, List.length_nil, Nat.reduceAdd, Nat.reduceSub, Array.replicate_succ, Array.replicate_zero, List.push_toArray, List.append_toArray, List.nil_append, List.cons_append]
  refine wpIn_wide.2 ?_
  go_upto_region 1 with fail
  refine wp_world (w' := w0) hw0.out ?_
  clear hw0
  go_wp2_with (go_at_call 14; refine (hops.out _).mono ?_; rintro e w' ⟨rfl, rfl⟩)
  refine (wpIn_wide (n := 0)).1 ?_
  have hx1 : Box (w0.alloc (Obj.cells #[.slice a cs.length c] 32)) w0.heap.size (.slice a cs.length c) 32 := Box.new _ _ _
  have hb1 : Below w.heap.size w (w0.alloc (Obj.cells #[.slice a cs.length c] 32)) := xalloc hb0 _
  have hS1 := puS_fac.below h0 (xalloc (xrefl w0) (Obj.cells #[.slice a cs.length c] 32))
  have hs1 : (w0.alloc (Obj.cells #[.slice a cs.length c] 32)).heap.size = w.heap.size + 5 := by rw [World.size_alloc, hs0.out]
  generalize w0.alloc (Obj.cells #[.slice a cs.length c] 32) = w1 at *
  have hsz0 : w0.heap.size = w.heap.size + 4 := hs0.out
  have hold := fun k (h0 : cs ≠ [] ∧ ∃ y, a = some y ∧ y.block = k) => codeRd_old (w' := w) (bx := 0) h h0.2 h0.1
  refine wp_rangeL (w0 := w) (gf := 33) (lb := #[.pointer (some ⟨w0.heap.size, 0, none⟩)]) rfl (enters_of Tryz.func33 (by kernel_rfl) rfl) (encs := encOp cs) (Rd := codeRd w0.heap.size a cs) (opsL cs)
    (fun k hk => by
      rcases hk with rfl | hk
      · omega
      · have := hold k hk; omega) hb1 (fun W hW => ops_seq cs _ a c W (hx1.below hW) ((h.below hb1).below hW)) (fun x => rfl)
    (fun k S W => PuS w (.slice a cs.length c) n [0, 0, 0, 0] false S W ∧ notTo cs n k)
    (fun k c' S W => c' = .ret ∧ ∃ N, pushZ cs n = some N ∧ PuS w (.slice a cs.length c) n (wordL N) true S W)
    (fun k S => ⟨fun W W' h hz hs => ⟨puS_fac.on W W' h.1 hz hs, h.2⟩, fun W h => puS_fac.lt W h.1⟩)
    (fun k c' S => ⟨fun W W' ⟨e, N, h1, h2⟩ hz hs => ⟨e, N, h1, puS_fac.on W W' h2 hz hs⟩, fun W ⟨e, N, h1, h2⟩ => puS_fac.lt W h2⟩)
    (fun k => w.heap.size ≤ k ∧ k < w.heap.size + 4)
    (fun j hj => ⟨hj.1, fun hr => by
      rcases hr with rfl | hr
      · omega
      · have := hold j hr; omega⟩) ⟨hS1, fun j _ h => by omega⟩ ?round ?done ?stop
  case round =>
    intro l0 k hk W
    unfold encOp
    dsimp only
    have hxm := List.getElem_mem hk
    have hkl := opsL_lt hxm
    have hsome := fun hb => push_some (cs := cs) hxm hb
    have hnext := fun h hn => notTo_succ (cs := cs) (n := n) (k := k) h hk hn
    generalize (opsL cs)[k] = x at *
    gi_wp2
    refine ⟨trivial, fun S W2 hb2 hzz _ hSo ⟨hS, hnot⟩ => ?_⟩
    have hsz2 := hb2.size
    have hS' := hS
    obtain ⟨h1, h2, h3, h4, hSe⟩ := hS'
    have hc2 := h2.cell
    by_cases hyes : ((x : Int) = n ∧ 95 ≤ byN cs x ∧ byN cs x ≤ 127)
    · obtain ⟨rfl, h95, h127⟩ := hyes
      have hps := hsome ⟨h95, h127⟩
      have hc1 := h1.cell
      have hbeh := behind_any cs x a c W2 (h.below hb2) hkl
      have hrl := restN_len cs x
      have hrs := szN_le (byN cs x)
      have hr256 := restN_lt h.ok x
      rw [hps]
      generalize byN cs x = y at *
      generalize restN cs x = R at *
      have hread := Lib.hid fun (b q : Nat) W (hr : RowAt .u8 W (some ⟨b, 0, none⟩) (natI R)) => read_any R (some ⟨b, 0, none⟩) q W hr (by omega) hr256
      have h95I : (95 : Int) ≤ y := by omega
      have h127I : (y : Int) ≤ 127 := by omega
      replace hbeh := Lib.hid hbeh
      replace hps := Lib.hid hps
      replace h4 := Lib.hid h4
      replace h3 := Lib.hid h3
      replace h1 := Lib.hid h1
      replace h2 := Lib.hid h2
      replace hSe := Lib.hid hSe
      replace hSo := Lib.hid hSo
      clear hS hnot hnext hsome hr256 hrl hrs
      gi_wp2_with (first
        | (refine ⟨trivial, rfl, ?_⟩; gi_at_call 36; refine (CallsIn.inRound l0 (callsIn_wide.2 hbeh.out)).mono ?_; rintro e W3 ⟨⟨bb, qq, rfl, hr3, hbb⟩, hb3⟩; clear hbeh; replace hr3 := Lib.hid hr3; replace hb3 := Lib.hid hb3)
        | (refine ⟨trivial, rfl, ?_⟩; gi_at_call 48; refine (CallsIn.inRound l0 (callsIn_wide.2 (hread.out bb qq _ hr3.out))).mono ?_; rintro e W4 ⟨rfl, hb4⟩; clear hread; have hb24 := Lib.hid (xtrans hb3.out hb4); have h34 := Lib.hid (h3.out.below hb24.out); clear hb4)
        | (refine wpListIn_store_blk rfl 50 _ _ rfl (w.heap.size + 1 + 1) rfl .u64 50 [0, 0, 0, 0] (wordL (numN R)) h34.out rfl rfl (by kernel_rfl) ?_; intro W5 h5 ho5; clear h34; have hO5 := Lib.hid ((Below.only hb24.out : Only (· = w.heap.size + 1 + 1) W2 W4).trans ho5); replace h5 := Lib.hid h5; clear ho5)
        | (refine wpListIn_load_blk rfl 50 _ rfl (w.heap.size + 1 + 1) rfl .u64 50 (wordL (numN R)) _ _ h5.out Tryz.underlying50 (by kernel_rfl) ?_)
        | (refine wpListIn_store_blk rfl 50 _ _ rfl (w.heap.size + 1 + 1) rfl .u64 50 (wordL (numN R)) (wordL (numN R)) h5.out rfl rfl (by kernel_rfl) ?_; intro W6 h6 ho6; have hO6 := Lib.hid (hO5.out.trans ho6); replace h6 := Lib.hid h6; clear ho6; have hB6 := Lib.hid (h4.out.only hO6.out (by omega)); have hq1 := hB6.out.cell; have hq2 := hB6.out.free))
      have hset := (Only.refl (· = w.heap.size + 1 + 1 + 1) W6).setCell ⟨w.heap.size + 1 + 1 + 1, 0, none⟩ (.bool true) rfl
      have hO7 : Only (fun k => w.heap.size ≤ k ∧ k < w.heap.size + 4) W2 (W6.setCell ⟨w.heap.size + 1 + 1 + 1, 0, none⟩ (.bool true)) := (hO6.out.mono fun k _ e => by omega).trans (hset.mono fun k _ e => by omega)
      refine ⟨by rw [hSe.out]; exact hO7, fun k => w.heap.size ≤ k ∧ k < w.heap.size + 4, fun j hj => .inl (by rw [hSe.out]; exact hj), rfl, numN R, rfl, ?_⟩
      exact ⟨(h1.out.only hO6.out (by omega)).only hset (by omega), (h2.out.only hO6.out (by omega)).only hset (by omega), h6.out.only hset (by omega), hB6.out.set _, rfl⟩
    · have hnot2 := Lib.hid (hnext hnot hyes)
      have hfin : Hid (∃ S', (∀ j, S' j → S j ∨ W2.heap.size ≤ j) ∧ PuS w (.slice a cs.length c) n [0, 0, 0, 0] false S' W2) := Lib.hid ⟨S, fun j h => .inl h, hS⟩
      clear hnext hsome hnot hS h1 h2 h3 h4 hSe hSo
      generalize byN cs x = y at *
      by_cases hxn : (x : Int) = n
      · subst hxn
        by_cases h95 : 95 ≤ y
        · have h95I : (95 : Int) ≤ y := by omega
          have h127I : (127 : Int) < y := by omega
          clear hyes
          gi_wp2
          exact ⟨Only.refl _ _, by obtain ⟨S', h1, h2⟩ := hfin.out; exact ⟨S', h1, h2, hnot2.out⟩⟩
        · have h95I : (y : Int) < 95 := by omega
          clear hyes
          gi_wp2
          exact ⟨Only.refl _ _, by obtain ⟨S', h1, h2⟩ := hfin.out; exact ⟨S', h1, h2, hnot2.out⟩⟩
      · have hx2 : ((x : Int) == n) = false := by simpa using hxn
        generalize (x : Int) = x' at *
        clear hyes
        gi_wp2
        exact ⟨Only.refl _ _, by obtain ⟨S', h1, h2⟩ := hfin.out; exact ⟨S', h1, h2, hnot2.out⟩⟩
  case done =>
    intro D S W hD hSD hb _ _ ⟨hS, hnot⟩ hK
    have hpn := Lib.hid (push_none hnot)
    obtain ⟨h1, h2, h3, h4, hSe⟩ := hS
    replace h3 := Lib.hid h3
    replace h4 := Lib.hid h4
    clear hnot h1 h2
    go_wp2_with (first
      | (refine wpList_load_blk rfl 50 _ rfl (w.heap.size + 1 + 1) rfl .u64 50 [0, 0, 0, 0] _ _ h3.out Tryz.underlying50 (by kernel_rfl) ?_)
      | (refine wpList_store_blk rfl 50 _ _ rfl (w.heap.size + 1 + 1) rfl .u64 50 [0, 0, 0, 0] [0, 0, 0, 0] h3.out rfl rfl (by kernel_rfl) ?_; intro W6 h6 ho6; have hB6 := Lib.hid (h4.out.only ho6 (by omega)); have hq1 := hB6.out.cell; have hq2 := hB6.out.free; replace h6 := Lib.hid h6; replace ho6 := Lib.hid ho6))
    have hset := (Only.refl (· = w.heap.size + 1 + 1 + 1) W6).setCell ⟨w.heap.size + 1 + 1 + 1, 0, none⟩ (.bool false) rfl
    have h7 := h6.out.only hset (by omega)
    have h8 := hB6.out.set (.bool false)
    have hb7 := hset.below (ho6.out.below hb hb.size (by rintro k rfl; omega)) (Nat.le_trans hb.size ho6.out.size) (by rintro k rfl; omega)
    have hDl : w1.heap.size ≤ D := hD
    have hK7 := (hset.same D (Nat.lt_of_lt_of_le (Array.getElem?_eq_some_iff.1 hK).1 ho6.out.size) (by omega)).trans ((ho6.out.same D (Array.getElem?_eq_some_iff.1 hK).1 (by omega)).trans hK)
    generalize W6.setCell ⟨w.heap.size + 1 + 1 + 1, 0, none⟩ (.bool false) = W7 at *
    have hput := (Only.refl (· = D) W7).putObj D (.deferred none) rfl
    refine ⟨by simp [Act.put], .inl ⟨_, _, rfl, run_takeDeferred hK7, ?_⟩⟩
    exact ⟨_, results_wordB rfl _ _ (w.heap.size + 1 + 1) (w.heap.size + 1 + 1 + 1) _ _ rfl (h7.only hput (by omega)) rfl rfl (h8.only hput (by omega)), by rw [hpn.out]; rfl, hput.below hb7 hb7.size (by rintro i rfl; omega)⟩
  case stop =>
    intro D k c' S W hk hD hSD hb _ _ ⟨e, N, hN, hS⟩ hK
    subst e
    obtain ⟨h1, h2, h7, h8, hSe⟩ := hS
    replace hN := Lib.hid hN
    gi_wp2
    have hDl : w1.heap.size ≤ D := hD
    have hput := (Only.refl (· = D) W).putObj D (.deferred none) rfl
    refine ⟨by simp [Act.put], .inl ⟨_, _, rfl, run_takeDeferred hK, ?_⟩⟩
    exact ⟨_, results_wordB rfl _ _ (w.heap.size + 1 + 1) (w.heap.size + 1 + 1 + 1) _ _ rfl (h7.only hput (by omega)) rfl rfl (h8.only hput (by omega)), by rw [hN.out]; rfl, hput.below hb hb.size (by rintro i rfl; omega)⟩
end Go.Proofs.YtbicfaiabpcgfaaGreatDoor
