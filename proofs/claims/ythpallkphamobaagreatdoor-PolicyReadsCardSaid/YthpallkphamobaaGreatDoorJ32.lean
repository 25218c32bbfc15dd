/- Texts of this claim, merged; no condition. -/
import Derived.Test.YthpallkphamobaaGreatDoorJ30
import Derived.Test.YthpallkphamobaaGreatDoorJ31
set_option linter.all false
namespace Go.Proofs.YthpallkphamobaaGreatDoor
open Go.RowKit Go.Shelf

theorem PaPost.badR {s : List UInt8} {n : Nat} {w W : World} (h : parseF s = .error n) (hb : Below w.heap.size w W) : PaPost s w (.returned (.tuple #[.agg #[.int .u64 0, .slice none 0 0, .slice none 0 0], .int .i64 n])) W := by
  obtain ⟨h1, h2⟩ := parse_bad h
  refine ⟨⟨none, 0, none, 0, ?_, by rw [h2]; exact noneP_at W⟩, hb⟩
  rw [h1, h2]; rfl
theorem PolO.at {g : Nat} {W : World} {p : PolN} {vc vr : Value} (h : PolO g W p vc vr) : ∃ a c b d, vc = .slice a p.clears.length c ∧ vr = .slice b p.rels.length d ∧ PolAt W p a c b d := by
  obtain ⟨hc, hr⟩ := lenP_ok h.ok
  obtain ⟨a, c, e1, r1⟩ := own_rows h.oc hc
  obtain ⟨b, d, e2, r2⟩ := own_rows h.ow hr
  exact ⟨a, c, b, d, e1, e2, r1, r2, h.ok⟩
theorem PaPost.goodR {s : List UInt8} {p : PolN} {g : Nat} {w W : World} {vc vr : Value} (h : parseF s = .ok p) (hO : PolO g W p vc vr) (hb : Below w.heap.size w W) : PaPost s w (.returned (.tuple #[.agg #[labV p.dflt, vc, vr], .int .i64 0])) W := by
  obtain ⟨h1, h2⟩ := parse_ok h
  obtain ⟨a, c, b, d, rfl, rfl, hA⟩ := hO.at
  refine ⟨⟨a, c, b, d, ?_, by rw [h2]; exact hA⟩, hb⟩
  rw [h1, h2]; rfl
def DnV (g : Nat) (o : Option PolN) (y1 y2 y3 : Value) (W : World) : Prop := [y1, y2, y3].all (·.oneCell') = true ∧ ∀ q, o = some q → y1 = labV q.dflt ∧ PolO g W q y2 y3
theorem DnV.below {g : Nat} {o : Option PolN} {y1 y2 y3 : Value} {W W' : World} (h : DnV g o y1 y2 y3 W) (hb : Below W.heap.size W W') : DnV g o y1 y2 y3 W' := ⟨h.1, fun q hq => ⟨(h.2 q hq).1, (h.2 q hq).2.below hb⟩⟩
theorem DnV.oth {g b : Nat} {o : Option PolN} {y1 y2 y3 : Value} {W W' : World} {vs : List Value} (h : DnV g o y1 y2 y3 W) (hB : BlkG W b 27 vs) (ho : Only (· = b) W W') : DnV g o y1 y2 y3 W' := ⟨h.1, fun q hq => ⟨(h.2 q hq).1, (h.2 q hq).2.oth hB ho⟩⟩
theorem DnPost.split {g : Nat} {o : Option PolN} {vc0 vr0 : Value} {w w' : World} {e : Ending} (h : DnPost g o vc0 vr0 w e w') : Only (fun k => vc0.ownBlock = some k ∨ vr0.ownBlock = some k) w w' ∧ ∃ y1 y2 y3, e = .returned (.tuple #[.agg #[y1, y2, y3], .bool o.isSome]) ∧ DnV g o y1 y2 y3 w' := by
  obtain ⟨h1, h2⟩ := h
  refine ⟨h1, ?_⟩
  cases o with
  | none => obtain ⟨v1, v2, v3, rfl, h3⟩ := h2; exact ⟨v1, v2, v3, rfl, h3, fun q hq => by cases hq⟩
  | some q =>
    obtain ⟨vc, vr, rfl, h3⟩ := h2
    obtain ⟨a, c, e1⟩ := own_sliceV h3.oc
    obtain ⟨b, d, e2⟩ := own_sliceV h3.ow
    refine ⟨_, _, _, rfl, by rw [e1, e2]; rfl, fun q' hq => by cases hq; exact ⟨rfl, h3⟩⟩
theorem only_below {W W' : World} (h : Only (fun _ => False) W W') : Below W.heap.size W W' := ⟨h.os, h.tape, h.output, h.size, fun k hk => h.same k hk id⟩
theorem built_none : Tryz.prog.built 27 [] = some #[.int .u64 0, .slice none 0 0, .slice none 0 0] := by kernel_rfl
theorem run_cutE (l : List UInt8) (k : Nat) (h : k ≤ l.length) (W : World) : (Instr.slice 9 (.string ⟨l.toArray⟩) none (some (.int .i64 k)) none).run Tryz.prog W = .ok (.string ⟨(l.take k).toArray⟩) W := by
  have hs : (⟨l.toArray⟩ : ByteArray).size = l.length := by show l.toArray.size = _; simp
  rw [run_slice_string_h W 9 ⟨l.toArray⟩ Tryz.underlying9 .i64 k (by omega) (by rw [hs]; omega)]
  refine congrArg (fun b : ByteArray => Result.ok (Value.string b) W) ?_
  apply ByteArray.ext
  simp
theorem PolO.nil (g : Nat) (W : World) : PolO g W noneP (.slice none 0 0) (.slice none 0 0) := ⟨World.ownsRow_nil _ _ _ _, World.ownsRow_nil _ _ _ _, ⟨fun x hx => by simp [noneP] at hx, fun x hx => by simp [noneP] at hx⟩⟩
set_option maxRecDepth 100000 in
set_option maxHeartbeats 8000000 in
theorem refParseP_any (s : List UInt8) (w : World) (hs63 : s.length ≤ 9223372036854775807) : Calls Tryz.prog 30 #[.string ⟨s.toArray⟩] w (PaPost s w) := by
  have hsz : (⟨s.toArray⟩ : ByteArray).size = s.length := by show s.toArray.size = _; simp
  have hB : BlkG (w.alloc (.cells #[.int .u64 0, .slice none 0 0, .slice none 0 0] 27)) w.heap.size 27 [.int .u64 0, .slice none 0 0, .slice none 0 0] := BlkG.new w _ [.int .u64 0, .slice none 0 0, .slice none 0 0]
  have hb0 : Below w.heap.size w (w.alloc (.cells #[.int .u64 0, .slice none 0 0, .slice none 0 0] 27)) := xalloc (xrefl w) _
  have hbn := Lib.hid built_none
  by_cases hlong : 65536 < s.length
  · have hlI : (65536 : Int) < (s.length : Int) := by omega
    have hbad := Lib.hid fun W => PaPost.badR (w := w) (W := W) (parse_longP hlong)
    clear hlong
    replace hB := Lib.hid hB
    replace hb0 := Lib.hid hb0
    go_enter Tryz.func30, Tryz.ntmps30
    go_upto_region 1 with fail
    generalize w.alloc (.cells #[.int .u64 0, .slice none 0 0, .slice none 0 0] 27) = w2 at *
    go_wp2_with (first
      | (refine wpList_build rfl 27 _ rfl [] rfl _ hbn.out ?_)
      | (refine wpList_store_blkG rfl 27 _ _ rfl w.heap.size rfl 27 [.int .u64 0, .slice none 0 0, .slice none 0 0] [.int .u64 0, .slice none 0 0, .slice none 0 0] hB.out rfl rfl (by kernel_rfl) (by rfl) ?_; intro w9 hBw9 how9; have hbw9 := Lib.hid (how9.below hb0.out (Below.size hb0.out) (by rintro q rfl; exact Nat.le_refl _)); replace hBw9 := Lib.hid hBw9; clear how9))
    exact bodyPost_ret (results_blkG2 (p := 2) (r := 3) rfl _ _ w.heap.size 27 _ _ rfl hBw9.out Tryz.underlying27 rfl (by kernel_rfl)) rfl (hbad.out _ hbw9.out)
  · have hlI : ¬ (65536 : Int) < (s.length : Int) := by omega
    by_cases hlast : s.getLast? = some 10
    · obtain ⟨m, hm⟩ : ∃ m, s.length = m + 1 := ⟨s.length - 1, by cases s with
        | nil => simp at hlast
        | cons x r => simp⟩
      have hmL : m < s.length := by omega
      have hix := fun W => run_at_str s m hmL W
      have hc10 : s[m] = 10 := by
        have := hlast
        rw [List.getLast?_eq_getElem?, hm, Nat.add_sub_cancel, List.getElem?_eq_getElem hmL] at this
        exact Option.some.inj this
      rw [hc10] at hix
      have hsn : s.isEmpty = false := by cases s with
        | nil => simp at hlast
        | cons x r => rfl
      have hwm : IntKind.i64.wrap ((s.length : Int) - 1) = (m : Int) := by rw [hm]; simp [IntKind.wrap, IntKind.bits, IntKind.signed]; omega
      have hcut := fun W => run_cutE s m (by omega) W
      have hF : parseF s = match linesP noneP true (splS 10 (s.take m)) with
        | none => .error 190
        | some p => if checkF p = 0 then .ok p else .error (checkF p) := by
        rw [parse_lines hlong hlast, List.dropLast_eq_take, hm, Nat.add_sub_cancel]
        rfl
      have htl : (s.take m).length ≤ 65536 := by rw [List.length_take]; omega
      have hsp := Lib.hid fun W => refSplit_any 10 (s.take m) W (by omega)
      obtain ⟨hsl, hsw⟩ := spl_sizeP 10 (s.take m)
      generalize splS 10 (s.take m) = L at *
      have hLl : L.length ≤ 65537 := by omega
      have hLx : ∀ j (hj : j < L.length), L[j].length ≤ 65536 := fun j hj => Nat.le_trans (hsw _ (List.getElem_mem hj)) htl
      generalize s.take m = st at *
      have hbad0 := Lib.hid fun n W (h : parseF s = .error n) hb => PaPost.badR (w := w) (W := W) h hb
      have hgood0 := Lib.hid fun p g W vc vr (h : parseF s = .ok p) hO hb => PaPost.goodR (w := w) (W := W) (p := p) (g := g) (vc := vc) (vr := vr) h hO hb
      replace hF := Lib.hid hF
      replace hm := Lib.hid hm
      replace hlast := Lib.hid hlast
      replace hB := Lib.hid hB
      replace hb0 := Lib.hid hb0
      clear hsw hc10
      go_enter Tryz.func30, Tryz.ntmps30
      go_upto_region 1 with fail
      have hz2 : w.heap.size < (w.alloc (.cells #[.int .u64 0, .slice none 0 0, .slice none 0 0] 27)).heap.size := by rw [World.size_alloc]; omega
      generalize w.alloc (.cells #[.int .u64 0, .slice none 0 0, .slice none 0 0] 27) = w2 at *
      go_upto_region 6 with (go_at_call 63; refine (hsp.out _).mono ?_; rintro e w3 ⟨⟨v3, rfl, hown3⟩, hb3⟩; obtain ⟨la, lc, rfl⟩ := own_sliceV hown3; have hz3 := hb3.size)
      obtain ⟨x3, y3, e3, hrow3, hnil3, hge3, -⟩ := rowV_own hown3
      cases e3
      have hB3 := Lib.hid (hB.out.below hb3)
      have hb03 := Lib.hid (xtrans hb0.out hb3)
      clear hB hb0 hb3 hsp hown3
      have hP4 : BlkG (w3.alloc (.cells #[.int .u64 0, .slice none 0 0, .slice none 0 0] 27)) w3.heap.size 27 [.int .u64 0, .slice none 0 0, .slice none 0 0] := BlkG.new w3 _ [.int .u64 0, .slice none 0 0, .slice none 0 0]
      have hb34 : Below w3.heap.size w3 (w3.alloc (.cells #[.int .u64 0, .slice none 0 0, .slice none 0 0] 27)) := xalloc (xrefl w3) _
      have hz4 : (w3.alloc (.cells #[.int .u64 0, .slice none 0 0, .slice none 0 0] 27)).heap.size = w3.heap.size + 1 := by rw [World.size_alloc]
      go_upto_region 8 with fail
      generalize w3.alloc (.cells #[.int .u64 0, .slice none 0 0, .slice none 0 0] 27) = w4 at *
      have hB4 := Lib.hid (hB3.out.below hb34)
      have hb04 := Lib.hid (xtrans hb03.out hb34)
      have hO4 := Lib.hid (PolO.nil w4.heap.size w4)
      have hrow : Hid (∀ j (hj : j < L.length), ∃ lb lo, la = some ⟨lb, lo, none⟩ ∧ lb < w3.heap.size ∧ w4.cell? ⟨lb, lo + j, none⟩ = some (.string ⟨(L[j]).toArray⟩)) := Lib.hid fun j hj => by
        obtain ⟨b1, o1, e1, c1⟩ := hrow3 j (by simpa using hj)
        have hl := cell_lt c1
        have := cbel hb34 c1
        exact ⟨b1, o1, e1, hl, by simpa [sV] using this⟩
      obtain ⟨pb, hpb⟩ : ∃ pb, pb = w3.heap.size := ⟨_, rfl⟩
      rw [← hpb] at hP4 hz4 hrow ⊢
      have hpz : w.heap.size + 1 ≤ pb := by omega
      replace hpb := Lib.hid hpb
      replace hP4 := Lib.hid hP4
      clear hrow3 hnil3 hge3 hb34 hB3 hb03 hz3
      go_loopw [6] (fun iv wx => ∃ (k : Nat) (q : PolN) (vc vr : Value), iv = .int .i64 k ∧ k ≤ L.length ∧ Hid (linesP noneP true L = linesP q (decide (k = 0)) (L.drop k)) ∧ Hid (q.clears.length ≤ k ∧ q.rels.length ≤ k) ∧ Hid (BlkG wx pb 27 [labV q.dflt, vc, vr]) ∧ Hid (PolO w4.heap.size wx q vc vr) ∧ Hid (Only (· = pb) w4 wx)) (fun iv _ => L.length - (intOf iv).toNat)
      case atStart => exact ⟨0, noneP, .slice none 0 0, .slice none 0 0, rfl, by omega, Lib.hid rfl, Lib.hid ⟨by simp [noneP], by simp [noneP]⟩, hP4, hO4, Lib.hid (Only.refl _ _)⟩
      case round =>
        clear hP4 hO4
        obtain ⟨k, q, vc, vr, rfl, hk, hst, hql, hP, hO, hon⟩ := hrel
        have hzr := hon.out.size
        have hR := Lib.hid (hB4.out.only hon.out (by omega))
        have hbw := Lib.hid (only_below (only_new (Below.only hb04.out : Only (fun _ => False) w w4) hon.out (by rintro j rfl; omega)))
        by_cases hlt : k < L.length
        · have hltI : (k : Int) < L.length := by omega
          obtain ⟨lb, lo, rfl, hlb, c0⟩ := hrow.out k hlt
          have c1 := Lib.hid (hon.out.cell c0 (by simp only; omega))
          have hx := hLx k hlt
          have hst3 := hst.out
          rw [List.drop_eq_getElem_cons hlt, linesP_step] at hst3
          have hvc := Lib.hid fun j hj => hO.out.oc.lt j hj
          have hvr := Lib.hid fun j hj => hO.out.ow.lt j hj
          have hwi : IntKind.i64.wrap ((k : Int) + 1) = (k : Int) + 1 := by simp [IntKind.wrap, IntKind.bits, IntKind.signed]; omega
          obtain ⟨hq1, hq2⟩ := hql.out
          generalize hxe : L[k] = x at *
          have hk0 : ((k : Int) == 0) = decide (k = 0) := by
            by_cases h : k = 0
            · subst h; rfl
            · rw [decide_eq_false h, beq_eq_false_iff_ne]; omega
          have hk0i : Hid (decide (k = 0) = true → k = 0) := Lib.hid (by simp)
          generalize decide (k = 0) = fb at *
          have hln := Lib.hid fun W (h : PolO w4.heap.size W q vc vr) hz => refLine_any w4.heap.size q vc vr x fb W h hz hx (by omega) (by omega)
          have hsz2 := Lib.hid fun p h => line_size (q := q) (p := p) (first := fb) (l := splS 32 x) h
          generalize lineF q fb (splS 32 x) = o at *
          replace hxe := Lib.hid hxe
          replace hst3 := Lib.hid hst3
          have hob : Hid (∀ j, (vc.ownBlock = some j ∨ vr.ownBlock = some j) → w4.heap.size ≤ j ∧ j < wr.heap.size) := Lib.hid fun j h => h.elim (hvc.out j) (hvr.out j)
          have hnpb : Hid (∀ j, j < w4.heap.size → ¬ (vc.ownBlock = some j ∨ vr.ownBlock = some j)) := Lib.hid fun j hj h => by
            rcases h with h | h
            · have := hvc.out j h; omega
            · have := hvr.out j h; omega
          go_upto_region 10 with fail
          obtain ⟨I, hI⟩ : ∃ I : (Nat → Bool) → Act → World → Prop, ∀ d a wz, I d a wz ↔ (∃ (v7 v8 v37 v38 v39 v40 v41 v42 v43 v44 v45 v46 v47 : Value) (y1 : Value) (y2 : Value) (y3 : Value), a = { tmps := #[.string ⟨s.toArray⟩, undef, .pointer (some ⟨w.heap.size, 0, none⟩), u3, .slice (some ⟨lb, lo, none⟩) L.length lc, .pointer (some ⟨pb, 0, none⟩), .int .i64 k, v7, v8, undef, .string ⟨s.toArray⟩, .int .i64 s.length, .bool false, undef, .string ⟨s.toArray⟩, .bool false, .bool false, .string ⟨s.toArray⟩, .string ⟨s.toArray⟩, .int .i64 s.length, .int .i64 m, .int .u8 10, .bool false, .bool false, undef, .string ⟨s.toArray⟩, .string ⟨s.toArray⟩, .int .i64 s.length, .int .i64 m, .string ⟨st.toArray⟩, .slice (some ⟨lb, lo, none⟩) L.length lc, .int .i64 k, .slice (some ⟨lb, lo, none⟩) L.length lc, .int .i64 L.length, .bool true, u35, u36, v37, v38, v39, v40, v41, v42, v43, v44, v45, v46, v47, u48, u49, u50, u51, undef, undef, undef, undef, undef, undef, undef], defers := [] } ∧ (Only (fun j => vc.ownBlock = some j ∨ vr.ownBlock = some j) wr wz) ∧ (d 0 = true → v38 = .agg #[labV q.dflt, vc, vr]) ∧ (d 1 = true → v39 = .slice (some ⟨lb, lo, none⟩) L.length lc) ∧ (d 2 = true → v40 = .int .i64 k) ∧ (d 3 = true → v41 = .pointer (some ⟨lb, lo + k, none⟩)) ∧ (d 4 = true → v42 = .string ⟨x.toArray⟩) ∧ (d 5 = true → v43 = .int .i64 k) ∧ (d 6 = true → v44 = .bool fb) ∧ (d 7 = true → v45 = .tuple #[.agg #[y1, y2, y3], .bool o.isSome]) ∧ (d 8 = true → v37 = .tuple #[.agg #[y1, y2, y3], .bool o.isSome]) ∧ (d 9 = true → v46 = .agg #[y1, y2, y3]) ∧ (d 10 = true → v47 = .bool o.isSome) ∧ (d 13 = true → v8 = .bool o.isSome) ∧ (d 7 = false → PolO w4.heap.size wz q vc vr) ∧ (d 7 = true → DnV w4.heap.size o y1 y2 y3 wz) ∧ (d 8 = true → d 7 = true) ∧ (d 9 = true → d 7 = true) ∧ (d 12 = true → d 11 = true) ∧ (d 12 = true → d 7 = true) ∧ (d 11 = true → ∃ p7, v7 = .pointer (some ⟨p7, 0, none⟩) ∧ wr.heap.size ≤ p7 ∧ BlkG wz p7 27 (if d 12 = true then [y1, y2, y3] else [.int .u64 0, .slice none 0 0, .slice none 0 0]))) := ⟨_, fun _ _ _ => Iff.rfl⟩
          replace hI := Lib.hid hI
          refine wp_region_inv (by kernel_rfl) (by kernel_rfl) I ?_ ?_ ?_
          · exact (hI.out _ _ _).2 ⟨u7, u8, u37, u38, u39, u40, u41, u42, u43, u44, u45, u46, u47, undef, undef, undef, rfl, (Only.refl _ _).drew, by simp, by simp, by simp, by simp, by simp, by simp, by simp, by simp, by simp, by simp, by simp, by simp, fun _ => hO.out.below (xdrew (xrefl wr)), by simp, by simp, by simp, by simp, by simp, by simp⟩
          · refine ⟨?_, ?_, ?_, ?_, ?_, ?_, ?_, ?_, ?_, ?_, ?_, ?_, ?_, ?_, trivial⟩
            · rintro d a wz hn hwt hi; obtain ⟨v7, v8, v37, v38, v39, v40, v41, v42, v43, v44, v45, v46, v47, y1, y2, y3, rfl, hn0, f_v38, f_v39, f_v40, f_v41, f_v42, f_v43, f_v44, f_v45, f_v37, f_v46, f_v47, f_v8, hO1, hV, g8, g9, g12, g12b, f7⟩ := (hI.out d a wz).1 hi; clear hi; simp [waitsFor, Region.binds] at hwt hn; replace f_v38 := Lib.hid f_v38; replace f_v39 := Lib.hid f_v39; replace f_v40 := Lib.hid f_v40; replace f_v41 := Lib.hid f_v41; replace f_v42 := Lib.hid f_v42; replace f_v43 := Lib.hid f_v43; replace f_v44 := Lib.hid f_v44; replace f_v45 := Lib.hid f_v45; replace f_v37 := Lib.hid f_v37; replace f_v46 := Lib.hid f_v46; replace f_v47 := Lib.hid f_v47; replace f_v8 := Lib.hid f_v8; replace hO1 := Lib.hid hO1; replace hV := Lib.hid hV; replace g8 := Lib.hid g8; replace g9 := Lib.hid g9; replace g12 := Lib.hid g12; replace g12b := Lib.hid g12b; replace f7 := Lib.hid f7; replace hn0 := Lib.hid hn0
              unfold Oper.wp
              rw [run_load_midV 27 _ rfl pb 0 rfl [labV q.dflt, vc, vr] _ (fun j u hj => by have := blk_cell (hP.out.only hn0.out (hnpb.out _ (by omega))) hj; simpa using this) Tryz.underlying27 rfl (by kernel_rfl)]
              exact (hI.out _ _ _).2 ⟨v7, v8, v37, .agg #[labV q.dflt, vc, vr], v39, v40, v41, v42, v43, v44, v45, v46, v47, y1, y2, y3, rfl, hn0.out, fun _ => rfl, by simpa [also] using f_v39.out, by simpa [also] using f_v40.out, by simpa [also] using f_v41.out, by simpa [also] using f_v42.out, by simpa [also] using f_v43.out, by simpa [also] using f_v44.out, by simpa [also] using f_v45.out, by simpa [also] using f_v37.out, by simpa [also] using f_v46.out, by simpa [also] using f_v47.out, by simpa [also] using f_v8.out, by simpa [also] using hO1.out, by simpa [also] using hV.out, by simpa [also] using g8.out, by simpa [also] using g9.out, by simpa [also] using g12.out, by simpa [also] using g12b.out, by simpa [also] using f7.out⟩
            · rintro d a wz hn hwt hi; obtain ⟨v7, v8, v37, v38, v39, v40, v41, v42, v43, v44, v45, v46, v47, y1, y2, y3, rfl, hn0, f_v38, f_v39, f_v40, f_v41, f_v42, f_v43, f_v44, f_v45, f_v37, f_v46, f_v47, f_v8, hO1, hV, g8, g9, g12, g12b, f7⟩ := (hI.out d a wz).1 hi; clear hi; simp [waitsFor, Region.binds] at hwt hn; replace f_v38 := Lib.hid f_v38; replace f_v39 := Lib.hid f_v39; replace f_v40 := Lib.hid f_v40; replace f_v41 := Lib.hid f_v41; replace f_v42 := Lib.hid f_v42; replace f_v43 := Lib.hid f_v43; replace f_v44 := Lib.hid f_v44; replace f_v45 := Lib.hid f_v45; replace f_v37 := Lib.hid f_v37; replace f_v46 := Lib.hid f_v46; replace f_v47 := Lib.hid f_v47; replace f_v8 := Lib.hid f_v8; replace hO1 := Lib.hid hO1; replace hV := Lib.hid hV; replace g8 := Lib.hid g8; replace g9 := Lib.hid g9; replace g12 := Lib.hid g12; replace g12b := Lib.hid g12b; replace f7 := Lib.hid f7; replace hn0 := Lib.hid hn0
              go_simp
              exact (hI.out _ _ _).2 ⟨v7, v8, v37, v38, .slice (some ⟨lb, lo, none⟩) L.length lc, v40, v41, v42, v43, v44, v45, v46, v47, y1, y2, y3, rfl, hn0.out, by simpa [also] using f_v38.out, fun _ => rfl, by simpa [also] using f_v40.out, by simpa [also] using f_v41.out, by simpa [also] using f_v42.out, by simpa [also] using f_v43.out, by simpa [also] using f_v44.out, by simpa [also] using f_v45.out, by simpa [also] using f_v37.out, by simpa [also] using f_v46.out, by simpa [also] using f_v47.out, by simpa [also] using f_v8.out, by simpa [also] using hO1.out, by simpa [also] using hV.out, by simpa [also] using g8.out, by simpa [also] using g9.out, by simpa [also] using g12.out, by simpa [also] using g12b.out, by simpa [also] using f7.out⟩
            · rintro d a wz hn hwt hi; obtain ⟨v7, v8, v37, v38, v39, v40, v41, v42, v43, v44, v45, v46, v47, y1, y2, y3, rfl, hn0, f_v38, f_v39, f_v40, f_v41, f_v42, f_v43, f_v44, f_v45, f_v37, f_v46, f_v47, f_v8, hO1, hV, g8, g9, g12, g12b, f7⟩ := (hI.out d a wz).1 hi; clear hi; simp [waitsFor, Region.binds] at hwt hn; replace f_v38 := Lib.hid f_v38; replace f_v39 := Lib.hid f_v39; replace f_v40 := Lib.hid f_v40; replace f_v41 := Lib.hid f_v41; replace f_v42 := Lib.hid f_v42; replace f_v43 := Lib.hid f_v43; replace f_v44 := Lib.hid f_v44; replace f_v45 := Lib.hid f_v45; replace f_v37 := Lib.hid f_v37; replace f_v46 := Lib.hid f_v46; replace f_v47 := Lib.hid f_v47; replace f_v8 := Lib.hid f_v8; replace hO1 := Lib.hid hO1; replace hV := Lib.hid hV; replace g8 := Lib.hid g8; replace g9 := Lib.hid g9; replace g12 := Lib.hid g12; replace g12b := Lib.hid g12b; replace f7 := Lib.hid f7; replace hn0 := Lib.hid hn0
              go_simp
              exact (hI.out _ _ _).2 ⟨v7, v8, v37, v38, v39, .int .i64 k, v41, v42, v43, v44, v45, v46, v47, y1, y2, y3, rfl, hn0.out, by simpa [also] using f_v38.out, by simpa [also] using f_v39.out, fun _ => rfl, by simpa [also] using f_v41.out, by simpa [also] using f_v42.out, by simpa [also] using f_v43.out, by simpa [also] using f_v44.out, by simpa [also] using f_v45.out, by simpa [also] using f_v37.out, by simpa [also] using f_v46.out, by simpa [also] using f_v47.out, by simpa [also] using f_v8.out, by simpa [also] using hO1.out, by simpa [also] using hV.out, by simpa [also] using g8.out, by simpa [also] using g9.out, by simpa [also] using g12.out, by simpa [also] using g12b.out, by simpa [also] using f7.out⟩
            · rintro d a wz hn hwt hi; obtain ⟨v7, v8, v37, v38, v39, v40, v41, v42, v43, v44, v45, v46, v47, y1, y2, y3, rfl, hn0, f_v38, f_v39, f_v40, f_v41, f_v42, f_v43, f_v44, f_v45, f_v37, f_v46, f_v47, f_v8, hO1, hV, g8, g9, g12, g12b, f7⟩ := (hI.out d a wz).1 hi; clear hi; simp [waitsFor, Region.binds] at hwt hn; replace f_v38 := Lib.hid f_v38; replace f_v39 := Lib.hid f_v39; replace f_v40 := Lib.hid f_v40; replace f_v41 := Lib.hid f_v41; replace f_v42 := Lib.hid f_v42; replace f_v43 := Lib.hid f_v43; replace f_v44 := Lib.hid f_v44; replace f_v45 := Lib.hid f_v45; replace f_v37 := Lib.hid f_v37; replace f_v46 := Lib.hid f_v46; replace f_v47 := Lib.hid f_v47; replace f_v8 := Lib.hid f_v8; replace hO1 := Lib.hid hO1; replace hV := Lib.hid hV; replace g8 := Lib.hid g8; replace g9 := Lib.hid g9; replace g12 := Lib.hid g12; replace g12b := Lib.hid g12b; replace f7 := Lib.hid f7; replace hn0 := Lib.hid hn0
              have e_v39 := f_v39.out (by simp [hwt])
              subst e_v39
              have e_v40 := f_v40.out (by simp [hwt])
              subst e_v40
              go_simp
              exact (hI.out _ _ _).2 ⟨v7, v8, v37, v38, .slice (some ⟨lb, lo, none⟩) L.length lc, .int .i64 k, .pointer (some ⟨lb, lo + k, none⟩), v42, v43, v44, v45, v46, v47, y1, y2, y3, rfl, hn0.out, by simpa [also] using f_v38.out, fun _ => rfl, fun _ => rfl, fun _ => rfl, by simpa [also] using f_v42.out, by simpa [also] using f_v43.out, by simpa [also] using f_v44.out, by simpa [also] using f_v45.out, by simpa [also] using f_v37.out, by simpa [also] using f_v46.out, by simpa [also] using f_v47.out, by simpa [also] using f_v8.out, by simpa [also] using hO1.out, by simpa [also] using hV.out, by simpa [also] using g8.out, by simpa [also] using g9.out, by simpa [also] using g12.out, by simpa [also] using g12b.out, by simpa [also] using f7.out⟩
            · rintro d a wz hn hwt hi; obtain ⟨v7, v8, v37, v38, v39, v40, v41, v42, v43, v44, v45, v46, v47, y1, y2, y3, rfl, hn0, f_v38, f_v39, f_v40, f_v41, f_v42, f_v43, f_v44, f_v45, f_v37, f_v46, f_v47, f_v8, hO1, hV, g8, g9, g12, g12b, f7⟩ := (hI.out d a wz).1 hi; clear hi; simp [waitsFor, Region.binds] at hwt hn; replace f_v38 := Lib.hid f_v38; replace f_v39 := Lib.hid f_v39; replace f_v40 := Lib.hid f_v40; replace f_v41 := Lib.hid f_v41; replace f_v42 := Lib.hid f_v42; replace f_v43 := Lib.hid f_v43; replace f_v44 := Lib.hid f_v44; replace f_v45 := Lib.hid f_v45; replace f_v37 := Lib.hid f_v37; replace f_v46 := Lib.hid f_v46; replace f_v47 := Lib.hid f_v47; replace f_v8 := Lib.hid f_v8; replace hO1 := Lib.hid hO1; replace hV := Lib.hid hV; replace g8 := Lib.hid g8; replace g9 := Lib.hid g9; replace g12 := Lib.hid g12; replace g12b := Lib.hid g12b; replace f7 := Lib.hid f7; replace hn0 := Lib.hid hn0
              have e_v41 := f_v41.out (by simp [hwt])
              subst e_v41
              have c := hn0.out.cell c1.out (hnpb.out _ (by simp only; omega))
              go_simp
              exact (hI.out _ _ _).2 ⟨v7, v8, v37, v38, v39, v40, .pointer (some ⟨lb, lo + k, none⟩), .string ⟨x.toArray⟩, v43, v44, v45, v46, v47, y1, y2, y3, rfl, hn0.out, by simpa [also] using f_v38.out, by simpa [also] using f_v39.out, by simpa [also] using f_v40.out, fun _ => rfl, fun _ => rfl, by simpa [also] using f_v43.out, by simpa [also] using f_v44.out, by simpa [also] using f_v45.out, by simpa [also] using f_v37.out, by simpa [also] using f_v46.out, by simpa [also] using f_v47.out, by simpa [also] using f_v8.out, by simpa [also] using hO1.out, by simpa [also] using hV.out, by simpa [also] using g8.out, by simpa [also] using g9.out, by simpa [also] using g12.out, by simpa [also] using g12b.out, by simpa [also] using f7.out⟩
            · rintro d a wz hn hwt hi; obtain ⟨v7, v8, v37, v38, v39, v40, v41, v42, v43, v44, v45, v46, v47, y1, y2, y3, rfl, hn0, f_v38, f_v39, f_v40, f_v41, f_v42, f_v43, f_v44, f_v45, f_v37, f_v46, f_v47, f_v8, hO1, hV, g8, g9, g12, g12b, f7⟩ := (hI.out d a wz).1 hi; clear hi; simp [waitsFor, Region.binds] at hwt hn; replace f_v38 := Lib.hid f_v38; replace f_v39 := Lib.hid f_v39; replace f_v40 := Lib.hid f_v40; replace f_v41 := Lib.hid f_v41; replace f_v42 := Lib.hid f_v42; replace f_v43 := Lib.hid f_v43; replace f_v44 := Lib.hid f_v44; replace f_v45 := Lib.hid f_v45; replace f_v37 := Lib.hid f_v37; replace f_v46 := Lib.hid f_v46; replace f_v47 := Lib.hid f_v47; replace f_v8 := Lib.hid f_v8; replace hO1 := Lib.hid hO1; replace hV := Lib.hid hV; replace g8 := Lib.hid g8; replace g9 := Lib.hid g9; replace g12 := Lib.hid g12; replace g12b := Lib.hid g12b; replace f7 := Lib.hid f7; replace hn0 := Lib.hid hn0
              go_simp
              exact (hI.out _ _ _).2 ⟨v7, v8, v37, v38, v39, v40, v41, v42, .int .i64 k, v44, v45, v46, v47, y1, y2, y3, rfl, hn0.out, by simpa [also] using f_v38.out, by simpa [also] using f_v39.out, by simpa [also] using f_v40.out, by simpa [also] using f_v41.out, by simpa [also] using f_v42.out, fun _ => rfl, by simpa [also] using f_v44.out, by simpa [also] using f_v45.out, by simpa [also] using f_v37.out, by simpa [also] using f_v46.out, by simpa [also] using f_v47.out, by simpa [also] using f_v8.out, by simpa [also] using hO1.out, by simpa [also] using hV.out, by simpa [also] using g8.out, by simpa [also] using g9.out, by simpa [also] using g12.out, by simpa [also] using g12b.out, by simpa [also] using f7.out⟩
            · rintro d a wz hn hwt hi; obtain ⟨v7, v8, v37, v38, v39, v40, v41, v42, v43, v44, v45, v46, v47, y1, y2, y3, rfl, hn0, f_v38, f_v39, f_v40, f_v41, f_v42, f_v43, f_v44, f_v45, f_v37, f_v46, f_v47, f_v8, hO1, hV, g8, g9, g12, g12b, f7⟩ := (hI.out d a wz).1 hi; clear hi; simp [waitsFor, Region.binds] at hwt hn; replace f_v38 := Lib.hid f_v38; replace f_v39 := Lib.hid f_v39; replace f_v40 := Lib.hid f_v40; replace f_v41 := Lib.hid f_v41; replace f_v42 := Lib.hid f_v42; replace f_v43 := Lib.hid f_v43; replace f_v44 := Lib.hid f_v44; replace f_v45 := Lib.hid f_v45; replace f_v37 := Lib.hid f_v37; replace f_v46 := Lib.hid f_v46; replace f_v47 := Lib.hid f_v47; replace f_v8 := Lib.hid f_v8; replace hO1 := Lib.hid hO1; replace hV := Lib.hid hV; replace g8 := Lib.hid g8; replace g9 := Lib.hid g9; replace g12 := Lib.hid g12; replace g12b := Lib.hid g12b; replace f7 := Lib.hid f7; replace hn0 := Lib.hid hn0
              have e_v43 := f_v43.out (by simp [hwt])
              subst e_v43
              go_simp
              exact (hI.out _ _ _).2 ⟨v7, v8, v37, v38, v39, v40, v41, v42, .int .i64 k, .bool fb, v45, v46, v47, y1, y2, y3, rfl, hn0.out, by simpa [also] using f_v38.out, by simpa [also] using f_v39.out, by simpa [also] using f_v40.out, by simpa [also] using f_v41.out, by simpa [also] using f_v42.out, fun _ => rfl, fun _ => rfl, by simpa [also] using f_v45.out, by simpa [also] using f_v37.out, by simpa [also] using f_v46.out, by simpa [also] using f_v47.out, by simpa [also] using f_v8.out, by simpa [also] using hO1.out, by simpa [also] using hV.out, by simpa [also] using g8.out, by simpa [also] using g9.out, by simpa [also] using g12.out, by simpa [also] using g12b.out, by simpa [also] using f7.out⟩
            · rintro d a wz hn hwt hi; obtain ⟨v7, v8, v37, v38, v39, v40, v41, v42, v43, v44, v45, v46, v47, y1, y2, y3, rfl, hn0, f_v38, f_v39, f_v40, f_v41, f_v42, f_v43, f_v44, f_v45, f_v37, f_v46, f_v47, f_v8, hO1, hV, g8, g9, g12, g12b, f7⟩ := (hI.out d a wz).1 hi; clear hi; simp [waitsFor, Region.binds] at hwt hn; replace f_v38 := Lib.hid f_v38; replace f_v39 := Lib.hid f_v39; replace f_v40 := Lib.hid f_v40; replace f_v41 := Lib.hid f_v41; replace f_v42 := Lib.hid f_v42; replace f_v43 := Lib.hid f_v43; replace f_v44 := Lib.hid f_v44; replace f_v45 := Lib.hid f_v45; replace f_v37 := Lib.hid f_v37; replace f_v46 := Lib.hid f_v46; replace f_v47 := Lib.hid f_v47; replace f_v8 := Lib.hid f_v8; replace hO1 := Lib.hid hO1; replace hV := Lib.hid hV; replace g8 := Lib.hid g8; replace g9 := Lib.hid g9; replace g12 := Lib.hid g12; replace g12b := Lib.hid g12b; replace f7 := Lib.hid f7; replace hn0 := Lib.hid hn0
              have e_v38 := f_v38.out (by simp [hwt])
              subst e_v38
              have e_v42 := f_v42.out (by simp [hwt])
              subst e_v42
              have e_v44 := f_v44.out (by simp [hwt])
              subst e_v44
              go_simp
              go_at_call 64
              refine (hln.out wz (hO1.out hn) (by have := hn0.out.size; omega)).mono ?_
              rintro e w' hp
              obtain ⟨hnn, y1', y2', y3', rfl, hV'⟩ := hp.split
              refine (hI.out _ _ _).2 ⟨v7, v8, v37, .agg #[labV q.dflt, vc, vr], v39, v40, v41, .string ⟨x.toArray⟩, v43, .bool fb, .tuple #[.agg #[y1', y2', y3'], .bool o.isSome], v46, v47, y1', y2', y3', rfl, hn0.out.trans hnn, fun _ => rfl, by simpa [also] using f_v39.out, by simpa [also] using f_v40.out, by simpa [also] using f_v41.out, fun _ => rfl, by simpa [also] using f_v43.out, fun _ => rfl, fun _ => rfl, fun h => absurd (g8.out (by simpa [also] using h)) (by simp [hn]), fun h => absurd (g9.out (by simpa [also] using h)) (by simp [hn]), by simpa [also] using f_v47.out, by simpa [also] using f_v8.out, fun h => by simp [also] at h, fun _ => hV', fun _ => by simp [also], fun _ => by simp [also], by simpa [also] using g12.out, fun _ => by simp [also], ?_⟩
              intro h
              obtain ⟨p7, e1, h7, b7⟩ := f7.out (by simpa [also] using h)
              have h12 : d 12 = false := by cases h12 : d 12 with
                | false => rfl
                | true => exact absurd (g12b.out h12) (by simp [hn])
              rw [if_neg (by simp [h12])] at b7
              exact ⟨p7, e1, h7, by simpa [also, h12] using b7.only hnn (fun e => by have := (hob.out _ e).2; omega)⟩
            · rintro d a wz hn hwt hi; obtain ⟨v7, v8, v37, v38, v39, v40, v41, v42, v43, v44, v45, v46, v47, y1, y2, y3, rfl, hn0, f_v38, f_v39, f_v40, f_v41, f_v42, f_v43, f_v44, f_v45, f_v37, f_v46, f_v47, f_v8, hO1, hV, g8, g9, g12, g12b, f7⟩ := (hI.out d a wz).1 hi; clear hi; simp [waitsFor, Region.binds] at hwt hn; replace f_v38 := Lib.hid f_v38; replace f_v39 := Lib.hid f_v39; replace f_v40 := Lib.hid f_v40; replace f_v41 := Lib.hid f_v41; replace f_v42 := Lib.hid f_v42; replace f_v43 := Lib.hid f_v43; replace f_v44 := Lib.hid f_v44; replace f_v45 := Lib.hid f_v45; replace f_v37 := Lib.hid f_v37; replace f_v46 := Lib.hid f_v46; replace f_v47 := Lib.hid f_v47; replace f_v8 := Lib.hid f_v8; replace hO1 := Lib.hid hO1; replace hV := Lib.hid hV; replace g8 := Lib.hid g8; replace g9 := Lib.hid g9; replace g12 := Lib.hid g12; replace g12b := Lib.hid g12b; replace f7 := Lib.hid f7; replace hn0 := Lib.hid hn0
              have e_v45 := f_v45.out (by simp [hwt])
              subst e_v45
              go_simp
              exact (hI.out _ _ _).2 ⟨v7, v8, .tuple #[.agg #[y1, y2, y3], .bool o.isSome], v38, v39, v40, v41, v42, v43, v44, .tuple #[.agg #[y1, y2, y3], .bool o.isSome], v46, v47, y1, y2, y3, rfl, hn0.out, by simpa [also] using f_v38.out, by simpa [also] using f_v39.out, by simpa [also] using f_v40.out, by simpa [also] using f_v41.out, by simpa [also] using f_v42.out, by simpa [also] using f_v43.out, by simpa [also] using f_v44.out, fun _ => rfl, fun _ => rfl, by simpa [also] using f_v46.out, by simpa [also] using f_v47.out, by simpa [also] using f_v8.out, by simpa [also] using hO1.out, by simpa [also] using hV.out, fun _ => by simp [also, hwt], by simpa [also] using g9.out, by simpa [also] using g12.out, by simpa [also] using g12b.out, by simpa [also] using f7.out⟩
            · rintro d a wz hn hwt hi; obtain ⟨v7, v8, v37, v38, v39, v40, v41, v42, v43, v44, v45, v46, v47, y1, y2, y3, rfl, hn0, f_v38, f_v39, f_v40, f_v41, f_v42, f_v43, f_v44, f_v45, f_v37, f_v46, f_v47, f_v8, hO1, hV, g8, g9, g12, g12b, f7⟩ := (hI.out d a wz).1 hi; clear hi; simp [waitsFor, Region.binds] at hwt hn; replace f_v38 := Lib.hid f_v38; replace f_v39 := Lib.hid f_v39; replace f_v40 := Lib.hid f_v40; replace f_v41 := Lib.hid f_v41; replace f_v42 := Lib.hid f_v42; replace f_v43 := Lib.hid f_v43; replace f_v44 := Lib.hid f_v44; replace f_v45 := Lib.hid f_v45; replace f_v37 := Lib.hid f_v37; replace f_v46 := Lib.hid f_v46; replace f_v47 := Lib.hid f_v47; replace f_v8 := Lib.hid f_v8; replace hO1 := Lib.hid hO1; replace hV := Lib.hid hV; replace g8 := Lib.hid g8; replace g9 := Lib.hid g9; replace g12 := Lib.hid g12; replace g12b := Lib.hid g12b; replace f7 := Lib.hid f7; replace hn0 := Lib.hid hn0
              have e_v37 := f_v37.out (by simp [hwt])
              subst e_v37
              go_simp
              have h7t := g8.out (by simp [hwt])
              exact (hI.out _ _ _).2 ⟨v7, v8, .tuple #[.agg #[y1, y2, y3], .bool o.isSome], v38, v39, v40, v41, v42, v43, v44, v45, .agg #[y1, y2, y3], v47, y1, y2, y3, rfl, hn0.out, by simpa [also] using f_v38.out, by simpa [also] using f_v39.out, by simpa [also] using f_v40.out, by simpa [also] using f_v41.out, by simpa [also] using f_v42.out, by simpa [also] using f_v43.out, by simpa [also] using f_v44.out, by simpa [also] using f_v45.out, fun _ => rfl, fun _ => rfl, by simpa [also] using f_v47.out, by simpa [also] using f_v8.out, by simpa [also] using hO1.out, by simpa [also] using hV.out, by simpa [also] using g8.out, fun _ => by simp [also, h7t], by simpa [also] using g12.out, by simpa [also] using g12b.out, by simpa [also] using f7.out⟩
            · rintro d a wz hn hwt hi; obtain ⟨v7, v8, v37, v38, v39, v40, v41, v42, v43, v44, v45, v46, v47, y1, y2, y3, rfl, hn0, f_v38, f_v39, f_v40, f_v41, f_v42, f_v43, f_v44, f_v45, f_v37, f_v46, f_v47, f_v8, hO1, hV, g8, g9, g12, g12b, f7⟩ := (hI.out d a wz).1 hi; clear hi; simp [waitsFor, Region.binds] at hwt hn; replace f_v38 := Lib.hid f_v38; replace f_v39 := Lib.hid f_v39; replace f_v40 := Lib.hid f_v40; replace f_v41 := Lib.hid f_v41; replace f_v42 := Lib.hid f_v42; replace f_v43 := Lib.hid f_v43; replace f_v44 := Lib.hid f_v44; replace f_v45 := Lib.hid f_v45; replace f_v37 := Lib.hid f_v37; replace f_v46 := Lib.hid f_v46; replace f_v47 := Lib.hid f_v47; replace f_v8 := Lib.hid f_v8; replace hO1 := Lib.hid hO1; replace hV := Lib.hid hV; replace g8 := Lib.hid g8; replace g9 := Lib.hid g9; replace g12 := Lib.hid g12; replace g12b := Lib.hid g12b; replace f7 := Lib.hid f7; replace hn0 := Lib.hid hn0
              have e_v37 := f_v37.out (by simp [hwt])
              subst e_v37
              go_simp
              exact (hI.out _ _ _).2 ⟨v7, v8, .tuple #[.agg #[y1, y2, y3], .bool o.isSome], v38, v39, v40, v41, v42, v43, v44, v45, v46, .bool o.isSome, y1, y2, y3, rfl, hn0.out, by simpa [also] using f_v38.out, by simpa [also] using f_v39.out, by simpa [also] using f_v40.out, by simpa [also] using f_v41.out, by simpa [also] using f_v42.out, by simpa [also] using f_v43.out, by simpa [also] using f_v44.out, by simpa [also] using f_v45.out, fun _ => rfl, by simpa [also] using f_v46.out, fun _ => rfl, by simpa [also] using f_v8.out, by simpa [also] using hO1.out, by simpa [also] using hV.out, by simpa [also] using g8.out, by simpa [also] using g9.out, by simpa [also] using g12.out, by simpa [also] using g12b.out, by simpa [also] using f7.out⟩
            · rintro d a wz hn hwt hi; obtain ⟨v7, v8, v37, v38, v39, v40, v41, v42, v43, v44, v45, v46, v47, y1, y2, y3, rfl, hn0, f_v38, f_v39, f_v40, f_v41, f_v42, f_v43, f_v44, f_v45, f_v37, f_v46, f_v47, f_v8, hO1, hV, g8, g9, g12, g12b, f7⟩ := (hI.out d a wz).1 hi; clear hi; simp [waitsFor, Region.binds] at hwt hn; replace f_v38 := Lib.hid f_v38; replace f_v39 := Lib.hid f_v39; replace f_v40 := Lib.hid f_v40; replace f_v41 := Lib.hid f_v41; replace f_v42 := Lib.hid f_v42; replace f_v43 := Lib.hid f_v43; replace f_v44 := Lib.hid f_v44; replace f_v45 := Lib.hid f_v45; replace f_v37 := Lib.hid f_v37; replace f_v46 := Lib.hid f_v46; replace f_v47 := Lib.hid f_v47; replace f_v8 := Lib.hid f_v8; replace hO1 := Lib.hid hO1; replace hV := Lib.hid hV; replace g8 := Lib.hid g8; replace g9 := Lib.hid g9; replace g12 := Lib.hid g12; replace g12b := Lib.hid g12b; replace f7 := Lib.hid f7; replace hn0 := Lib.hid hn0
              have hno : d 12 = false := by cases h12 : d 12 with
                | false => rfl
                | true => exact absurd (g12.out h12) (by simp [hn])
              go_simp
              exact (hI.out _ _ _).2 ⟨.pointer (some ⟨wz.heap.size, 0, none⟩), v8, v37, v38, v39, v40, v41, v42, v43, v44, v45, v46, v47, y1, y2, y3, rfl, hn0.out.alloc _, by simpa [also] using f_v38.out, by simpa [also] using f_v39.out, by simpa [also] using f_v40.out, by simpa [also] using f_v41.out, by simpa [also] using f_v42.out, by simpa [also] using f_v43.out, by simpa [also] using f_v44.out, by simpa [also] using f_v45.out, by simpa [also] using f_v37.out, by simpa [also] using f_v46.out, by simpa [also] using f_v47.out, by simpa [also] using f_v8.out, fun h => (hO1.out (by simpa [also] using h)).below (xalloc (xrefl _) _), fun h => (hV.out (by simpa [also] using h)).below (xalloc (xrefl _) _), by simpa [also] using g8.out, by simpa [also] using g9.out, fun _ => by simp [also], by simpa [also] using g12b.out, fun _ => ⟨wz.heap.size, rfl, hn0.out.size, by simpa [also, hno] using BlkG.new wz 27 [.int .u64 0, .slice none 0 0, .slice none 0 0]⟩⟩
            · rintro d a wz hn hwt hi; obtain ⟨v7, v8, v37, v38, v39, v40, v41, v42, v43, v44, v45, v46, v47, y1, y2, y3, rfl, hn0, f_v38, f_v39, f_v40, f_v41, f_v42, f_v43, f_v44, f_v45, f_v37, f_v46, f_v47, f_v8, hO1, hV, g8, g9, g12, g12b, f7⟩ := (hI.out d a wz).1 hi; clear hi; simp [waitsFor, Region.binds] at hwt hn; replace f_v38 := Lib.hid f_v38; replace f_v39 := Lib.hid f_v39; replace f_v40 := Lib.hid f_v40; replace f_v41 := Lib.hid f_v41; replace f_v42 := Lib.hid f_v42; replace f_v43 := Lib.hid f_v43; replace f_v44 := Lib.hid f_v44; replace f_v45 := Lib.hid f_v45; replace f_v37 := Lib.hid f_v37; replace f_v46 := Lib.hid f_v46; replace f_v47 := Lib.hid f_v47; replace f_v8 := Lib.hid f_v8; replace hO1 := Lib.hid hO1; replace hV := Lib.hid hV; replace g8 := Lib.hid g8; replace g9 := Lib.hid g9; replace g12 := Lib.hid g12; replace g12b := Lib.hid g12b; replace f7 := Lib.hid f7; replace hn0 := Lib.hid hn0
              have e_v46 := f_v46.out (by simp [hwt])
              subst e_v46
              obtain ⟨p7, e7, h7, b7⟩ := f7.out (by simp [hwt])
              subst e7
              rw [if_neg (by simp [hn])] at b7
              have h7t : d 7 = true := g9.out (by simp [hwt])
              have h11 : d 11 = true := by simp [hwt]
              refine wp_store_blkG 27 _ _ rfl p7 rfl 27 [.int .u64 0, .slice none 0 0, .slice none 0 0] [y1, y2, y3] b7 rfl rfl (by kernel_rfl) (hV.out h7t).1 ?_
              intro w2 hB2 ho2
              exact (hI.out _ _ _).2 ⟨.pointer (some ⟨p7, 0, none⟩), v8, v37, v38, v39, v40, v41, v42, v43, v44, v45, .agg #[y1, y2, y3], v47, y1, y2, y3, rfl, only_new hn0.out ho2 (by rintro j rfl; exact h7), by simpa [also] using f_v38.out, by simpa [also] using f_v39.out, by simpa [also] using f_v40.out, by simpa [also] using f_v41.out, by simpa [also] using f_v42.out, by simpa [also] using f_v43.out, by simpa [also] using f_v44.out, by simpa [also] using f_v45.out, by simpa [also] using f_v37.out, fun _ => rfl, by simpa [also] using f_v47.out, by simpa [also] using f_v8.out, fun h => by simp [also, h7t] at h, fun _ => (hV.out h7t).oth b7 ho2, by simpa [also] using g8.out, by simpa [also] using g9.out, fun _ => by simp [also, h11], fun _ => by simp [also, h7t], fun _ => ⟨p7, rfl, h7, by simpa [also] using hB2⟩⟩
            · rintro d a wz hn hwt hi; obtain ⟨v7, v8, v37, v38, v39, v40, v41, v42, v43, v44, v45, v46, v47, y1, y2, y3, rfl, hn0, f_v38, f_v39, f_v40, f_v41, f_v42, f_v43, f_v44, f_v45, f_v37, f_v46, f_v47, f_v8, hO1, hV, g8, g9, g12, g12b, f7⟩ := (hI.out d a wz).1 hi; clear hi; simp [waitsFor, Region.binds] at hwt hn; replace f_v38 := Lib.hid f_v38; replace f_v39 := Lib.hid f_v39; replace f_v40 := Lib.hid f_v40; replace f_v41 := Lib.hid f_v41; replace f_v42 := Lib.hid f_v42; replace f_v43 := Lib.hid f_v43; replace f_v44 := Lib.hid f_v44; replace f_v45 := Lib.hid f_v45; replace f_v37 := Lib.hid f_v37; replace f_v46 := Lib.hid f_v46; replace f_v47 := Lib.hid f_v47; replace f_v8 := Lib.hid f_v8; replace hO1 := Lib.hid hO1; replace hV := Lib.hid hV; replace g8 := Lib.hid g8; replace g9 := Lib.hid g9; replace g12 := Lib.hid g12; replace g12b := Lib.hid g12b; replace f7 := Lib.hid f7; replace hn0 := Lib.hid hn0
              have e_v47 := f_v47.out (by simp [hwt])
              subst e_v47
              go_simp
              exact (hI.out _ _ _).2 ⟨v7, .bool o.isSome, v37, v38, v39, v40, v41, v42, v43, v44, v45, v46, .bool o.isSome, y1, y2, y3, rfl, hn0.out, by simpa [also] using f_v38.out, by simpa [also] using f_v39.out, by simpa [also] using f_v40.out, by simpa [also] using f_v41.out, by simpa [also] using f_v42.out, by simpa [also] using f_v43.out, by simpa [also] using f_v44.out, by simpa [also] using f_v45.out, by simpa [also] using f_v37.out, by simpa [also] using f_v46.out, fun _ => rfl, fun _ => rfl, by simpa [also] using hO1.out, by simpa [also] using hV.out, by simpa [also] using g8.out, by simpa [also] using g9.out, by simpa [also] using g12.out, by simpa [also] using g12b.out, by simpa [also] using f7.out⟩
          intro d a wz hall hi
          obtain ⟨v7, v8, v37, v38, v39, v40, v41, v42, v43, v44, v45, v46, v47, y1, y2, y3, rfl, hn0, f_v38, f_v39, f_v40, f_v41, f_v42, f_v43, f_v44, f_v45, f_v37, f_v46, f_v47, f_v8, hO1, hV, g8, g9, g12, g12b, f7⟩ := (hI.out d a wz).1 hi
          clear hi
          simp [List.range_succ] at hall
          have e_v38 := f_v38 (by simp [hall])
          have e_v39 := f_v39 (by simp [hall])
          have e_v40 := f_v40 (by simp [hall])
          have e_v41 := f_v41 (by simp [hall])
          have e_v42 := f_v42 (by simp [hall])
          have e_v43 := f_v43 (by simp [hall])
          have e_v44 := f_v44 (by simp [hall])
          have e_v45 := f_v45 (by simp [hall])
          have e_v37 := f_v37 (by simp [hall])
          have e_v46 := f_v46 (by simp [hall])
          have e_v47 := f_v47 (by simp [hall])
          have e_v8 := f_v8 (by simp [hall])
          have hV1 := hV (by simp [hall])
          obtain ⟨p7, e7, h7, b7⟩ := f7 (by simp [hall])
          rw [if_pos (by simp [hall])] at b7
          subst e_v38 e_v39 e_v40 e_v41 e_v42 e_v43 e_v44 e_v45 e_v37 e_v46 e_v47 e_v8 e7
          clear f_v38 f_v39 f_v40 f_v41 f_v42 f_v43 f_v44 f_v45 f_v37 f_v46 f_v47 f_v8 hO1 hV g8 g9 g12 g12b f7 hall hI I hln
          have hzz := hn0.size
          have hRz := Lib.hid (hR.out.only hn0 (hnpb.out _ (by omega)))
          have hPz := Lib.hid (hP.out.only hn0 (hnpb.out _ (by omega)))
          have hbz := Lib.hid (hn0.below hbw.out hbw.out.size (by
            rintro j (h | h)
            · have := (hvc.out j h).1; omega
            · have := (hvr.out j h).1; omega))
          have honz := Lib.hid (only_new hon.out hn0 (by
            rintro j (h | h)
            · exact (hvc.out j h).1
            · exact (hvr.out j h).1))
          replace b7 := Lib.hid b7
          replace hn0 := Lib.hid hn0
          cases o with
          | none =>
            have hF2 := hF.out
            rw [hst3.out] at hF2
            have hbad := Lib.hid fun W hb => hbad0.out 190 W hF2 hb
            replace hF2 := Lib.hid hF2
            replace hV1 := Lib.hid hV1
            simp only [Option.isSome_none]
            clear hbad0 hgood0
            go_wp2_with (first
              | (refine wpList_build rfl 27 _ rfl [] rfl _ hbn.out ?_)
              | (refine wpList_store_blkG rfl 27 _ _ rfl w.heap.size rfl 27 [.int .u64 0, .slice none 0 0, .slice none 0 0] [.int .u64 0, .slice none 0 0, .slice none 0 0] hRz.out rfl rfl (by kernel_rfl) (by rfl) ?_; intro w9 hBw9 how9; have hbw9 := Lib.hid (how9.below hbz.out (Below.size hbz.out) (by rintro i rfl; exact Nat.le_refl _)); replace hBw9 := Lib.hid hBw9; clear how9))
            exact bodyPost_ret (results_blkG2 (p := 2) (r := 3) rfl _ _ w.heap.size 27 _ _ rfl hBw9.out Tryz.underlying27 rfl (by kernel_rfl)) rfl (hbad.out _ hbw9.out)
          | some q2 =>
            obtain ⟨h1y, hV2⟩ := hV1
            obtain ⟨hd2, hO2⟩ := hV2 q2 rfl
            obtain ⟨hs1, hs2⟩ := hsz2.out q2 rfl
            have hst4 : Hid (linesP noneP true L = linesP q2 (decide (k + 1 = 0)) (L.drop (k + 1))) := Lib.hid (by rw [hst3.out]; rfl)
            replace hO2 := Lib.hid hO2
            replace hd2 := Lib.hid hd2
            simp only [Option.isSome_some]
            clear hV2 hbad0 hgood0 hF
            go_wp2_with (first
              | (refine wpList_load_mid rfl 27 _ rfl p7 0 rfl [y1, y2, y3] _ (BlkG.range b7.out) Tryz.underlying27 rfl (by kernel_rfl) ?_)
              | (refine wpList_store_blkG rfl 27 _ _ rfl pb rfl 27 [labV q.dflt, vc, vr] [y1, y2, y3] hPz.out rfl rfl (by kernel_rfl) h1y ?_; intro w9 hB9 ho9; have hO9 := Lib.hid (hO2.out.oth hPz.out ho9); have hon9 := Lib.hid (honz.out.trans ho9); replace hB9 := Lib.hid hB9; clear ho9))
            exact ⟨⟨k + 1, q2, y2, y3, by first | rfl | simp, by omega, hst4, Lib.hid ⟨by omega, by omega⟩, by rw [← hd2.out]; exact hB9, hO9, hon9⟩, by simp [intOf]; omega⟩
        · obtain rfl : k = L.length := by omega
          have hst2 := hst.out
          rw [List.drop_length] at hst2
          have hF2 := hF.out
          rw [hst2] at hF2
          simp only [linesP] at hF2
          obtain ⟨a, c, b, d, rfl, rfl, hA⟩ := hO.out.at
          obtain ⟨hq1, hq2⟩ := hql.out
          have hck := Lib.hid (refCheck_any q a b c d wr hA (by omega) (by omega))
          clear hlt hst hst2
          by_cases h0 : checkF q = 0
          · rw [if_pos h0] at hF2
            rw [h0] at hck
            have hgood := Lib.hid fun W (hO : PolO w4.heap.size W q (.slice a q.clears.length c) (.slice b q.rels.length d)) hb => hgood0.out q w4.heap.size W _ _ hF2 hO hb
            clear hF2 h0 hA hgood0 hbad0
            unfold polV at hck
            go_wp2_with (first
              | (refine wpList_load_mid rfl 27 _ rfl pb 0 rfl [labV q.dflt, .slice a q.clears.length c, .slice b q.rels.length d] _ (BlkG.range hP.out) Tryz.underlying27 rfl (by kernel_rfl) ?_)
              | (go_at_call 15; refine hck.out.mono ?_; rintro e w5 ⟨rfl, hb5⟩; have hP5 := Lib.hid (hP.out.below hb5); have hR5 := Lib.hid (hR.out.below hb5); have hO5 := Lib.hid (hO.out.below hb5); have hb05 := Lib.hid (xtrans hbw.out hb5); clear hb5)
              | (refine wpList_load_mid rfl 27 _ rfl pb 0 rfl [labV q.dflt, .slice a q.clears.length c, .slice b q.rels.length d] _ (BlkG.range hP5.out) Tryz.underlying27 rfl (by kernel_rfl) ?_)
              | (refine wpList_store_blkG rfl 27 _ _ rfl w.heap.size rfl 27 [.int .u64 0, .slice none 0 0, .slice none 0 0] [labV q.dflt, .slice a q.clears.length c, .slice b q.rels.length d] hR5.out rfl rfl (by kernel_rfl) (by rfl) ?_; intro w9 hBw9 how9; have hO9 := Lib.hid (hO5.out.oth hR5.out how9); have hbw9 := Lib.hid (how9.below hb05.out (Below.size hb05.out) (by rintro i rfl; exact Nat.le_refl _)); replace hBw9 := Lib.hid hBw9; clear how9))
            exact bodyPost_ret (results_blkG2 (p := 2) (r := 3) rfl _ _ w.heap.size 27 _ _ rfl hBw9.out Tryz.underlying27 rfl (by kernel_rfl)) rfl (hgood.out _ hO9.out hbw9.out)
          · rw [if_neg h0] at hF2
            have hbad := Lib.hid fun W hb => hbad0.out (checkF q) W hF2 hb
            have h0B : (((checkF q : Nat) : Int) == 0) = false := by rw [beq_eq_false_iff_ne]; omega
            generalize checkF q = nc at *
            clear hF2 h0 hA hgood0 hbad0
            unfold polV at hck
            go_wp2_with (first
              | (refine wpList_load_mid rfl 27 _ rfl pb 0 rfl [labV q.dflt, .slice a q.clears.length c, .slice b q.rels.length d] _ (BlkG.range hP.out) Tryz.underlying27 rfl (by kernel_rfl) ?_)
              | (go_at_call 15; refine hck.out.mono ?_; rintro e w5 ⟨rfl, hb5⟩; have hP5 := Lib.hid (hP.out.below hb5); have hR5 := Lib.hid (hR.out.below hb5); have hO5 := Lib.hid (hO.out.below hb5); have hb05 := Lib.hid (xtrans hbw.out hb5); clear hb5)
              | (refine wpList_build rfl 27 _ rfl [] rfl _ hbn.out ?_)
              | (refine wpList_store_blkG rfl 27 _ _ rfl w.heap.size rfl 27 [.int .u64 0, .slice none 0 0, .slice none 0 0] [.int .u64 0, .slice none 0 0, .slice none 0 0] hR5.out rfl rfl (by kernel_rfl) (by rfl) ?_; intro w9 hBw9 how9; have hbw9 := Lib.hid (how9.below hb05.out (Below.size hb05.out) (by rintro i rfl; exact Nat.le_refl _)); replace hBw9 := Lib.hid hBw9; clear how9))
            exact bodyPost_ret (results_blkG2 (p := 2) (r := 3) rfl _ _ w.heap.size 27 _ _ rfl hBw9.out Tryz.underlying27 rfl (by kernel_rfl)) rfl (hbad.out _ hbw9.out)
    · have hbad := Lib.hid fun W => PaPost.badR (w := w) (W := W) (parse_openP hlong hlast)
      replace hB := Lib.hid hB
      replace hb0 := Lib.hid hb0
      cases hsn : s.isEmpty with
      | true =>
        clear hlast
        go_enter Tryz.func30, Tryz.ntmps30
        go_upto_region 1 with fail
        generalize w.alloc (.cells #[.int .u64 0, .slice none 0 0, .slice none 0 0] 27) = w2 at *
        go_wp2_with (first
          | (refine wpList_build rfl 27 _ rfl [] rfl _ hbn.out ?_)
          | (refine wpList_store_blkG rfl 27 _ _ rfl w.heap.size rfl 27 [.int .u64 0, .slice none 0 0, .slice none 0 0] [.int .u64 0, .slice none 0 0, .slice none 0 0] hB.out rfl rfl (by kernel_rfl) (by rfl) ?_; intro w9 hBw9 how9; have hbw9 := Lib.hid (how9.below hb0.out (Below.size hb0.out) (by rintro q rfl; exact Nat.le_refl _)); replace hBw9 := Lib.hid hBw9; clear how9))
        exact bodyPost_ret (results_blkG2 (p := 2) (r := 3) rfl _ _ w.heap.size 27 _ _ rfl hBw9.out Tryz.underlying27 rfl (by kernel_rfl)) rfl (hbad.out _ hbw9.out)
      | false =>
        obtain ⟨m, hm⟩ : ∃ m, s.length = m + 1 := ⟨s.length - 1, by cases s with
          | nil => simp at hsn
          | cons x r => simp⟩
        have hmL : m < s.length := by omega
        have hix := fun W => run_at_str s m hmL W
        have hc10 : s[m].toNat ≠ 10 := fun e => hlast (by
          rw [List.getLast?_eq_getElem?, hm, Nat.add_sub_cancel, List.getElem?_eq_getElem hmL]
          exact congrArg some (UInt8.toNat_inj.1 e))
        generalize s[m].toNat = cn at *
        have hcI : ((cn : Int) == 10) = false := by rw [beq_eq_false_iff_ne]; omega
        have hwm : IntKind.i64.wrap ((s.length : Int) - 1) = (m : Int) := by rw [hm]; simp [IntKind.wrap, IntKind.bits, IntKind.signed]; omega
        replace hlast := Lib.hid hlast
        replace hm := Lib.hid hm
        clear hc10
        go_enter Tryz.func30, Tryz.ntmps30
        go_upto_region 1 with fail
        generalize w.alloc (.cells #[.int .u64 0, .slice none 0 0, .slice none 0 0] 27) = w2 at *
        go_wp2_with (first
          | (refine wpList_build rfl 27 _ rfl [] rfl _ hbn.out ?_)
          | (refine wpList_store_blkG rfl 27 _ _ rfl w.heap.size rfl 27 [.int .u64 0, .slice none 0 0, .slice none 0 0] [.int .u64 0, .slice none 0 0, .slice none 0 0] hB.out rfl rfl (by kernel_rfl) (by rfl) ?_; intro w9 hBw9 how9; have hbw9 := Lib.hid (how9.below hb0.out (Below.size hb0.out) (by rintro q rfl; exact Nat.le_refl _)); replace hBw9 := Lib.hid hBw9; clear how9))
        exact bodyPost_ret (results_blkG2 (p := 2) (r := 3) rfl _ _ w.heap.size 27 _ _ rfl hBw9.out Tryz.underlying27 rfl (by kernel_rfl)) rfl (hbad.out _ hbw9.out)
end Go.Proofs.YthpallkphamobaaGreatDoor
