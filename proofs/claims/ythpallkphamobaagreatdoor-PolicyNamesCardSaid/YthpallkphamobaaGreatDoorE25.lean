/- Texts of this claim, merged; no condition. -/
import Derived.Test.YthpallkphamobaaGreatDoorE24
import Derived.Test.YthpallkphamobaaGreatDoorE02
set_option linter.all false
namespace Go.Proofs.YthpallkphamobaaGreatDoor
open Go.RowKit Go.Shelf

theorem blk_drew {w : World} {b : Nat} {T : TypeId} {vs : List Value} (h : BlkG w b T vs) : BlkG w.drew b T vs := h
/-- Behind the first region. -/
structure NmS (w W : World) (la lb lw : List Value) (p q : Nat) : Prop where
  X : BlkG W p 29 la
  Y : BlkG W q 29 lb
  W_ : BlkG W (w.heap.size + 1) 43 lw
  hb : Below w.heap.size w W
theorem NmS.below {w W W' : World} {la lb lw : List Value} {p q : Nat} (h : NmS w W la lb lw p q) (hb : Below W.heap.size W W') : NmS w W' la lb lw p q := ⟨h.X.below hb, h.Y.below hb, h.W_.below hb, xtrans h.hb hb⟩
set_option maxRecDepth 100000 in
set_option maxHeartbeats 16000000 in
theorem names_go (a b : List Nat) (ha : Adr a) (hb' : Adr b) (x : List UInt8) (M : Nat) (w : World) (hx63 : x.length ≤ 9223372036854775807) (hT : TabP w) :
    Calls Tryz.prog 4 #[.agg (adrC a ++ adrC b).toArray, .string ⟨x.toArray⟩, wordV M] w (Yes w) := by
  have hla : (adrC a).length = 20 := by rw [adrC_len, ha.len]
  have hlb : (adrC b).length = 20 := by rw [adrC_len, hb'.len]
  have h1la : (adrC a).all (·.oneCell') = true := by simp [adrC, Value.oneCell']
  have h1lb : (adrC b).all (·.oneCell') = true := by simp [adrC, Value.oneCell']
  have hTt : Hid (∀ W, Below w.heap.size w W → TabP W) := Lib.hid fun W h => hT.below h
  have hord := Lib.hid fun W => order_any a b W ha hb'
  have hror := Lib.hid fun W => refOrder_any a b W ha hb'
  have hnm := Lib.hid fun W => name_any a ha W
  have hrnm := Lib.hid fun W => refName_any a ha W
  have hwd := Lib.hid fun W => word_any a ha W
  have hwdb := Lib.hid fun W => word_any b hb' W
  have hrwd := Lib.hid fun W => refWord_any a ha W
  have hofm := Lib.hid fun W => ofA_any M W
  have hrofm := Lib.hid fun W => refOfA_any M W
  have hofn := fun W => ofA_any (numN a) W
  rw [of_num ha] at hofn
  replace hofn := Lib.hid hofn
  have hwo := fun W => refOrdW_any (numN a) (numN b) W (num_256 ha) (num_256 hb')
  rw [← ord_num a b (ha.len.trans hb'.len.symm) ha.ok hb'.ok] at hwo
  replace hwo := Lib.hid hwo
  have hwk0 := Lib.hid fun W h => worksP_any W (hTt.out W h)
  have hlen2 : (hexN a).length ≤ 4194304 := by rw [hexN_len, ha.len]; decide
  have hadn := Lib.hid fun W => address_ok (hexN a) a W hlen2 (addr_hex ha.ok ha.len)
  have eqL : Hid (∀ (W : World) (o : Oper) (ac : Act) (x y : Operand), o.op = .binOp .eql 29 x y 29 → ac.eval x = adrV a → ac.eval y = adrV a → (execOp ac.eval o).run Tryz.prog W = .ok (.value (.bool true)) W) := Lib.hid fun W o ac x y h1 h2 h3 => (exec_eqlA x y h1 _ _ ha ha h2 h3).trans (by rw [decide_eq_true rfl])
  have eqM : Hid (∀ (W : World) (o : Oper) (ac : Act) (x y : Operand), o.op = .binOp .eql 29 x y 29 → ac.eval x = adrV (ofN M) → ac.eval y = adrV (ofN M) → (execOp ac.eval o).run Tryz.prog W = .ok (.value (.bool true)) W) := Lib.hid fun W o ac x y h1 h2 h3 => (exec_eqlA x y h1 _ _ (ofN_adr M) (ofN_adr M) h2 h3).trans (by rw [decide_eq_true rfl])
  have eqW : Hid (∀ (W : World) (o : Oper) (ac : Act) (x y : Operand), o.op = .binOp .eql 43 x y 43 → ac.eval x = wordV (numN a) → ac.eval y = wordV (numN a) → (execOp ac.eval o).run Tryz.prog W = .ok (.value (.bool true)) W) := Lib.hid fun W o ac x y h1 h2 h3 => exec_eqlW x y h1 (numN a) h2 h3
  have hadP := Lib.hid fun W (h : x.length ≤ 4194304) => address_any x W h
  have hadR := Lib.hid fun W (h : x.length ≤ 4194304) => refAddress_any x W h
  have hX20 : Adr ((addrF x).getD zAdr) := by
    cases h : addrF x with
    | none => exact ⟨rfl, by decide⟩
    | some c => exact ⟨(addr_some h).2.2, (addr_some h).2.1⟩
  have eqX : Hid (∀ (W : World) (o : Oper) (ac : Act) (u y : Operand), o.op = .binOp .eql 29 u y 29 → ac.eval u = adrV ((addrF x).getD zAdr) → ac.eval y = adrV ((addrF x).getD zAdr) → (execOp ac.eval o).run Tryz.prog W = .ok (.value (.bool true)) W) := Lib.hid fun W o ac u y h1 h2 h3 => (exec_eqlA u y h1 _ _ hX20 hX20 h2 h3).trans (by rw [decide_eq_true rfl])
  have hlx : (adrC ((addrF x).getD zAdr)).length = 20 := by rw [adrC_len, hX20.len]
  have h1lx : (adrC ((addrF x).getD zAdr)).all (·.oneCell') = true := by simp [adrC, Value.oneCell']
  unfold adrO at hadP
  have hwN : (wordV (numN a)) = .agg ((wordL (numN a)).map (Value.int .u64)).toArray := rfl
  have hwB : (wordV (numN b)) = .agg ((wordL (numN b)).map (Value.int .u64)).toArray := rfl
  have hwM : (wordV M) = .agg ((wordL M).map (Value.int .u64)).toArray := rfl
  have hlw : ((wordL M).map (Value.int .u64)).length = 4 := rfl
  rw [hwN] at hwd hrwd hofn hwo eqW
  rw [hwB] at hwdb hwo
  rw [hwM] at hofm hrofm ⊢
  unfold adrV at *
  have hsz : (⟨x.toArray⟩ : ByteArray).size = x.length := by show x.toArray.size = _; simp
  have hnl : (hexN a).length = 42 := by rw [hexN_len, ha.len]
  clear hwN hwB hwM hT hX20 hlen2
  generalize (wordL (numN a)).map (Value.int .u64) = wn at *
  generalize (wordL (numN b)).map (Value.int .u64) = wb at *
  generalize (wordL M).map (Value.int .u64) = lw at *
  generalize hexN a = nm at *
  generalize ordA a b = oab at *
  generalize adrC a = la at *
  generalize adrC b = lb at *
  generalize adrC (ofN M) = lm at *
  generalize adrC ((addrF x).getD zAdr) = lx at *
  obtain ⟨zl, hzd⟩ : ∃ zl, Hid (zl = ([.int .u8 0, .int .u8 0, .int .u8 0, .int .u8 0, .int .u8 0, .int .u8 0, .int .u8 0, .int .u8 0, .int .u8 0, .int .u8 0, .int .u8 0, .int .u8 0, .int .u8 0, .int .u8 0, .int .u8 0, .int .u8 0, .int .u8 0, .int .u8 0, .int .u8 0, .int .u8 0] : List Value)) := ⟨_, Lib.hid rfl⟩
  have hzl : zl.length = 20 := by rw [hzd.out]; rfl
  have hznew : ∀ W : World, BlkG (W.alloc (.cells ([.int .u8 0, .int .u8 0, .int .u8 0, .int .u8 0, .int .u8 0, .int .u8 0, .int .u8 0, .int .u8 0, .int .u8 0, .int .u8 0, .int .u8 0, .int .u8 0, .int .u8 0, .int .u8 0, .int .u8 0, .int .u8 0, .int .u8 0, .int .u8 0, .int .u8 0, .int .u8 0]).toArray 29)) W.heap.size 29 zl := fun W => by rw [hzd.out]; exact BlkG.new W _ _
  have hb0 : Hid (Below w.heap.size w ((w.alloc (.cells (la ++ lb).toArray 41)).alloc (.cells lw.toArray 43))) := Lib.hid (xalloc (xalloc (xrefl w) _) _)
  have hA0 : Hid (BlkG ((w.alloc (.cells (la ++ lb).toArray 41)).alloc (.cells lw.toArray 43)) w.heap.size 41 (la ++ lb)) := Lib.hid ((BlkG.new w _ _).alloc _)
  have hW0 : Hid (BlkG ((w.alloc (.cells (la ++ lb).toArray 41)).alloc (.cells lw.toArray 43)) (w.heap.size + 1) 43 lw) := Lib.hid (by
    have := BlkG.new (w.alloc (.cells (la ++ lb).toArray 41)) 43 lw
    rwa [World.size_alloc] at this)
  go_enter Tryz.func4, Tryz.ntmps4
  go_upto_region 1 with fail
  generalize (w.alloc (.cells (la ++ lb).toArray 41)).alloc (.cells lw.toArray 43) = w1 at *
  obtain ⟨I, hI⟩ : ∃ I : (Nat → Bool) → Act → World → Prop, ∀ d a wr, I d a wr ↔ (∃ v7 v8 v15 v16 v17 v18 : Value, a = { tmps := #[.agg (la ++ lb).toArray, .string ⟨x.toArray⟩, .agg lw.toArray, .pointer (some ⟨w.heap.size, 0, none⟩), undef, .pointer (some ⟨w.heap.size + 1, 0, none⟩), .bool false, v7, v8, undef, undef, undef, undef, undef, undef, v15, v16, v17, v18, undef, undef, undef, undef, undef, undef, undef, undef, undef, undef, undef, undef, undef, undef, undef, undef, undef, undef, undef, undef, undef, undef, undef, undef, undef, undef, undef, undef, undef, undef, undef, undef, undef, undef, undef, undef, undef, undef, undef, undef, undef, undef, undef, undef, undef, undef, undef, undef, undef, undef, undef, undef, undef, undef, undef, undef, undef, undef, undef, undef, undef, undef, undef, undef, undef, undef, undef, undef, undef, undef, undef, undef, undef, undef, undef, undef, undef, undef, undef, undef, undef, undef, undef, undef, undef, undef, undef, undef, undef, undef, undef, undef, undef, undef, undef, undef, undef, undef, undef], defers := [] }
    ∧ Below w.heap.size w wr ∧ BlkG wr w.heap.size 41 (la ++ lb) ∧ BlkG wr (w.heap.size + 1) 43 lw
    ∧ (d 0 = true → v15 = .pointer (some ⟨w.heap.size, 0, none⟩)) ∧ (d 1 = true → v16 = .agg la.toArray) ∧ (d 2 = true → v17 = .pointer (some ⟨w.heap.size, 20, none⟩)) ∧ (d 3 = true → v18 = .agg lb.toArray)
    ∧ (d 6 = true → d 4 = true) ∧ (d 7 = true → d 5 = true)
    ∧ (d 4 = true → ∃ p, v7 = .pointer (some ⟨p, 0, none⟩) ∧ w.heap.size + 1 < p ∧ BlkG wr p 29 (if d 6 = true then la else zl) ∧ (d 5 = true → v8 ≠ .pointer (some ⟨p, 0, none⟩)))
    ∧ (d 5 = true → ∃ p, v8 = .pointer (some ⟨p, 0, none⟩) ∧ w.heap.size + 1 < p ∧ BlkG wr p 29 (if d 7 = true then lb else zl) ∧ (d 4 = true → v7 ≠ .pointer (some ⟨p, 0, none⟩)))) := ⟨_, fun _ _ _ => Iff.rfl⟩
  replace hI := Lib.hid hI
  refine wp_region_inv (by kernel_rfl) (by kernel_rfl) I ?_ ?_ ?_
  · exact (hI.out _ _ _).2 ⟨undef, undef, undef, undef, undef, undef, rfl, xdrew hb0.out, blk_drew hA0.out, blk_drew hW0.out, by simp, by simp, by simp, by simp, by simp, by simp, by simp, by simp⟩
  · refine ⟨?_, ?_, ?_, ?_, ?_, ?_, ?_, ?_, trivial⟩
    · rintro d a wr hn hwt hi; obtain ⟨v7, v8, v15, v16, v17, v18, rfl, hb, hA, hW, f15, f16, f17, f18, g6, g7, f7, f8⟩ := (hI.out d a wr).1 hi; clear hi; simp [waitsFor, Region.binds] at hwt hn; replace f15 := Lib.hid f15; replace f16 := Lib.hid f16; replace f17 := Lib.hid f17; replace f18 := Lib.hid f18; replace f7 := Lib.hid f7; replace f8 := Lib.hid f8; replace g6 := Lib.hid g6; replace g7 := Lib.hid g7
      go_simp
      exact (hI.out _ _ _).2 ⟨v7, v8, .pointer (some ⟨w.heap.size, 0, none⟩), v16, v17, v18, rfl, hb, hA, hW, fun _ => rfl, by simpa [also] using f16.out, by simpa [also] using f17.out, by simpa [also] using f18.out, by simpa [also] using g6.out, by simpa [also] using g7.out, by simpa [also] using f7.out, by simpa [also] using f8.out⟩
    · rintro d a wr hn hwt hi; obtain ⟨v7, v8, v15, v16, v17, v18, rfl, hb, hA, hW, f15, f16, f17, f18, g6, g7, f7, f8⟩ := (hI.out d a wr).1 hi; clear hi; simp [waitsFor, Region.binds] at hwt hn; replace f15 := Lib.hid f15; replace f16 := Lib.hid f16; replace f17 := Lib.hid f17; replace f18 := Lib.hid f18; replace f7 := Lib.hid f7; replace f8 := Lib.hid f8; replace g6 := Lib.hid g6; replace g7 := Lib.hid g7
      have e1 := f15.out (by simp [hwt])
      subst e1
      unfold Oper.wp
      rw [run_load_midV 29 _ rfl w.heap.size 0 rfl la _ (fun j u hj => by have := blk_cell hA (pre_get (m := lb) hj); simpa using this) Tryz.underlying29 rfl (by rw [hla]; kernel_rfl)]
      exact (hI.out _ _ _).2 ⟨v7, v8, .pointer (some ⟨w.heap.size, 0, none⟩), .agg la.toArray, v17, v18, rfl, hb, hA, hW, fun _ => rfl, fun _ => rfl, by simpa [also] using f17.out, by simpa [also] using f18.out, by simpa [also] using g6.out, by simpa [also] using g7.out, by simpa [also] using f7.out, by simpa [also] using f8.out⟩
    · rintro d a wr hn hwt hi; obtain ⟨v7, v8, v15, v16, v17, v18, rfl, hb, hA, hW, f15, f16, f17, f18, g6, g7, f7, f8⟩ := (hI.out d a wr).1 hi; clear hi; simp [waitsFor, Region.binds] at hwt hn; replace f15 := Lib.hid f15; replace f16 := Lib.hid f16; replace f17 := Lib.hid f17; replace f18 := Lib.hid f18; replace f7 := Lib.hid f7; replace f8 := Lib.hid f8; replace g6 := Lib.hid g6; replace g7 := Lib.hid g7
      go_simp
      exact (hI.out _ _ _).2 ⟨v7, v8, v15, v16, .pointer (some ⟨w.heap.size, 20, none⟩), v18, rfl, hb, hA, hW, by simpa [also] using f15.out, by simpa [also] using f16.out, fun _ => rfl, by simpa [also] using f18.out, by simpa [also] using g6.out, by simpa [also] using g7.out, by simpa [also] using f7.out, by simpa [also] using f8.out⟩
    · rintro d a wr hn hwt hi; obtain ⟨v7, v8, v15, v16, v17, v18, rfl, hb, hA, hW, f15, f16, f17, f18, g6, g7, f7, f8⟩ := (hI.out d a wr).1 hi; clear hi; simp [waitsFor, Region.binds] at hwt hn; replace f15 := Lib.hid f15; replace f16 := Lib.hid f16; replace f17 := Lib.hid f17; replace f18 := Lib.hid f18; replace f7 := Lib.hid f7; replace f8 := Lib.hid f8; replace g6 := Lib.hid g6; replace g7 := Lib.hid g7
      have e1 := f17.out (by simp [hwt])
      subst e1
      unfold Oper.wp
      rw [run_load_midV 29 _ rfl w.heap.size 20 rfl lb _ (fun j u hj => blk_cell hA (by rw [List.getElem?_append_right (by omega), hla, show 20 + j - 20 = j by omega]; exact hj)) Tryz.underlying29 rfl (by rw [hlb]; kernel_rfl)]
      exact (hI.out _ _ _).2 ⟨v7, v8, v15, v16, .pointer (some ⟨w.heap.size, 20, none⟩), .agg lb.toArray, rfl, hb, hA, hW, by simpa [also] using f15.out, by simpa [also] using f16.out, fun _ => rfl, fun _ => rfl, by simpa [also] using g6.out, by simpa [also] using g7.out, by simpa [also] using f7.out, by simpa [also] using f8.out⟩
    · rintro d a wr hn hwt hi; obtain ⟨v7, v8, v15, v16, v17, v18, rfl, hb, hA, hW, f15, f16, f17, f18, g6, g7, f7, f8⟩ := (hI.out d a wr).1 hi; clear hi; simp [waitsFor, Region.binds] at hwt hn; replace f15 := Lib.hid f15; replace f16 := Lib.hid f16; replace f17 := Lib.hid f17; replace f18 := Lib.hid f18; replace f7 := Lib.hid f7; replace f8 := Lib.hid f8; replace g6 := Lib.hid g6; replace g7 := Lib.hid g7
      have hbl := hW.lt
      have hno : ¬ d 6 = true := by intro h; simp [g6.out h] at hn
      go_simp
      refine (hI.out _ _ _).2 ⟨.pointer (some ⟨wr.heap.size, 0, none⟩), v8, v15, v16, v17, v18, rfl, xalloc hb _, hA.alloc _, hW.alloc _, by simpa [also] using f15.out, by simpa [also] using f16.out, by simpa [also] using f17.out, by simpa [also] using f18.out, fun _ => rfl, by simpa [also] using g7.out, ?_, ?_⟩
      · intro h
        refine ⟨wr.heap.size, rfl, by omega, ?_, ?_⟩
        · rw [if_neg (by simpa [also] using hno)]
          exact hznew wr
        · intro h
          obtain ⟨p, e1, e2, e3, e4⟩ := f8.out (by simpa [also] using h)
          rw [e1]
          intro he
          have := e3.lt
          simp at he <;> omega
      · intro h
        obtain ⟨p, e1, e2, e3, e4⟩ := f8.out (by simpa [also] using h)
        refine ⟨p, e1, e2, by simpa [also] using e3.alloc _, ?_⟩
        intro _ he
        have := e3.lt
        simp at he <;> omega
    · rintro d a wr hn hwt hi; obtain ⟨v7, v8, v15, v16, v17, v18, rfl, hb, hA, hW, f15, f16, f17, f18, g6, g7, f7, f8⟩ := (hI.out d a wr).1 hi; clear hi; simp [waitsFor, Region.binds] at hwt hn; replace f15 := Lib.hid f15; replace f16 := Lib.hid f16; replace f17 := Lib.hid f17; replace f18 := Lib.hid f18; replace f7 := Lib.hid f7; replace f8 := Lib.hid f8; replace g6 := Lib.hid g6; replace g7 := Lib.hid g7
      have hbl := hW.lt
      have hno : ¬ d 7 = true := by intro h; simp [g7.out h] at hn
      go_simp
      refine (hI.out _ _ _).2 ⟨v7, .pointer (some ⟨wr.heap.size, 0, none⟩), v15, v16, v17, v18, rfl, xalloc hb _, hA.alloc _, hW.alloc _, by simpa [also] using f15.out, by simpa [also] using f16.out, by simpa [also] using f17.out, by simpa [also] using f18.out, by simpa [also] using g6.out, fun _ => rfl, ?_, ?_⟩
      · intro h
        obtain ⟨p, e1, e2, e3, e4⟩ := f7.out (by simpa [also] using h)
        refine ⟨p, e1, e2, by simpa [also] using e3.alloc _, ?_⟩
        intro _ he
        have := e3.lt
        simp at he <;> omega
      · intro h
        refine ⟨wr.heap.size, rfl, by omega, ?_, ?_⟩
        · rw [if_neg (by simpa [also] using hno)]
          exact hznew wr
        · intro h
          obtain ⟨p, e1, e2, e3, e4⟩ := f7.out (by simpa [also] using h)
          rw [e1]
          intro he
          have := e3.lt
          simp at he <;> omega
    · rintro d a wr hn hwt hi; obtain ⟨v7, v8, v15, v16, v17, v18, rfl, hb, hA, hW, f15, f16, f17, f18, g6, g7, f7, f8⟩ := (hI.out d a wr).1 hi; clear hi; simp [waitsFor, Region.binds] at hwt hn; replace f15 := Lib.hid f15; replace f16 := Lib.hid f16; replace f17 := Lib.hid f17; replace f18 := Lib.hid f18; replace f7 := Lib.hid f7; replace f8 := Lib.hid f8; replace g6 := Lib.hid g6; replace g7 := Lib.hid g7
      have h4 : d 4 = true := by simp [hwt]
      have h5 : d 5 = true := by simp [hwt]
      have e1 := f16.out (by simp [hwt])
      subst e1
      obtain ⟨p, e1, e2, e3, e4⟩ := f7.out h4
      obtain ⟨q, k1, k2, k3, k4⟩ := f8.out h5
      subst e1 k1
      have hpq : q ≠ p := by rintro rfl; exact e4 h5 rfl
      rw [if_neg (by simp [hn])] at e3
      refine wp_store_blkG 29 _ _ rfl p rfl 29 zl la e3 rfl (by rw [hzl, hla]) (by rw [hla]; kernel_rfl) h1la ?_
      intro w2 hw2 ho2
      refine (hI.out _ _ _).2 ⟨.pointer (some ⟨p, 0, none⟩), .pointer (some ⟨q, 0, none⟩), v15, .agg la.toArray, v17, v18, rfl, ho2.below hb hb.size (by rintro i rfl; omega), hA.only ho2 (by omega), hW.only ho2 (by omega), by simpa [also] using f15.out, fun _ => rfl, by simpa [also] using f17.out, by simpa [also] using f18.out, fun _ => by simp [also, h4], fun _ => by simp [also, h5], ?_, ?_⟩
      · exact fun _ => ⟨p, rfl, by assumption, by simpa [also] using hw2, fun _ h => by simp at h <;> omega⟩
      · exact fun _ => ⟨q, rfl, by assumption, by simpa [also] using k3.only ho2 hpq, fun _ h => by simp at h <;> omega⟩
    · rintro d a wr hn hwt hi; obtain ⟨v7, v8, v15, v16, v17, v18, rfl, hb, hA, hW, f15, f16, f17, f18, g6, g7, f7, f8⟩ := (hI.out d a wr).1 hi; clear hi; simp [waitsFor, Region.binds] at hwt hn; replace f15 := Lib.hid f15; replace f16 := Lib.hid f16; replace f17 := Lib.hid f17; replace f18 := Lib.hid f18; replace f7 := Lib.hid f7; replace f8 := Lib.hid f8; replace g6 := Lib.hid g6; replace g7 := Lib.hid g7
      have h4 : d 4 = true := by simp [hwt]
      have h5 : d 5 = true := by simp [hwt]
      have e1 := f18.out (by simp [hwt])
      subst e1
      obtain ⟨p, e1, e2, e3, e4⟩ := f8.out h5
      obtain ⟨q, k1, k2, k3, k4⟩ := f7.out h4
      subst e1 k1
      have hpq : q ≠ p := by rintro rfl; exact e4 h4 rfl
      rw [if_neg (by simp [hn])] at e3
      refine wp_store_blkG 29 _ _ rfl p rfl 29 zl lb e3 rfl (by rw [hzl, hlb]) (by rw [hlb]; kernel_rfl) h1lb ?_
      intro w2 hw2 ho2
      refine (hI.out _ _ _).2 ⟨.pointer (some ⟨q, 0, none⟩), .pointer (some ⟨p, 0, none⟩), v15, v16, v17, .agg lb.toArray, rfl, ho2.below hb hb.size (by rintro i rfl; omega), hA.only ho2 (by omega), hW.only ho2 (by omega), by simpa [also] using f15.out, by simpa [also] using f16.out, by simpa [also] using f17.out, fun _ => rfl, fun _ => by simp [also, h4], fun _ => by simp [also, h5], ?_, ?_⟩
      · exact fun _ => ⟨q, rfl, by assumption, by simpa [also] using k3.only ho2 hpq, fun _ h => by simp at h <;> omega⟩
      · exact fun _ => ⟨p, rfl, by assumption, by simpa [also] using hw2, fun _ h => by simp at h <;> omega⟩
  intro d a wr hall hi
  obtain ⟨v7, v8, v15, v16, v17, v18, rfl, hb1, hA1, hW1, f15, f16, f17, f18, g6, g7, f7, f8⟩ := (hI.out d a wr).1 hi
  clear hi
  simp [List.range_succ] at hall
  have e15 := f15 (by simp [hall])
  have e16 := f16 (by simp [hall])
  have e17 := f17 (by simp [hall])
  have e18 := f18 (by simp [hall])
  obtain ⟨p, e1, hp, hX, hpq⟩ := f7 (by simp [hall])
  obtain ⟨q, e2, hq, hY, -⟩ := f8 (by simp [hall])
  replace hpq := hpq (by simp [hall])
  subst e15 e16 e17 e18 e1 e2
  rw [if_pos (by simp [hall])] at hX hY
  replace hpq : q ≠ p := by rintro rfl; exact hpq rfl
  clear f7 f8 f15 f16 f17 f18 g6 g7 hall hI I
  have hS1 : Hid (NmS w wr la lb lw p q) := Lib.hid ⟨hX, hY, hW1, hb1⟩
  clear hX hY hA1 hW1 hb1 hb0 hA0 hW0 hznew hzl hzd hpq hp hq
  by_cases h60 : x.length ≤ 60
  · have h60I : ¬ (60 : Int) < x.length := by omega
    have hx4 : x.length ≤ 4194304 := by omega
    cases hax : (addrF x).isSome with
    | true =>
      rw [hax] at hadP hadR
      simp only [if_true] at hadP
      clear hax
      go_upto_region 6 with (first
          | (go_at_call 18; refine (hadP.out _ hx4).mono ?_; rintro e w2 ⟨rfl, hb2⟩; have hs2 := hb2.size; replace hS1 := Lib.hid (hS1.out.below hb2); clear hb2)
          | (refine wpList_store_blkG rfl 29 _ _ rfl w2.heap.size rfl 29 [.int .u8 0, .int .u8 0, .int .u8 0, .int .u8 0, .int .u8 0, .int .u8 0, .int .u8 0, .int .u8 0, .int .u8 0, .int .u8 0, .int .u8 0, .int .u8 0, .int .u8 0, .int .u8 0, .int .u8 0, .int .u8 0, .int .u8 0, .int .u8 0, .int .u8 0, .int .u8 0] lx (BlkG.new w2 _ _) rfl (by rw [hlx]; rfl) (by rw [hlx]; kernel_rfl) h1lx ?_; intro w3 hc9 ho3; have hb3 := ho3.below (xalloc (xrefl w2) _) (xalloc (xrefl w2) (.cells ([.int .u8 0, .int .u8 0, .int .u8 0, .int .u8 0, .int .u8 0, .int .u8 0, .int .u8 0, .int .u8 0, .int .u8 0, .int .u8 0, .int .u8 0, .int .u8 0, .int .u8 0, .int .u8 0, .int .u8 0, .int .u8 0, .int .u8 0, .int .u8 0, .int .u8 0, .int .u8 0]).toArray 29)).size (by rintro k rfl; exact Nat.le_refl _); replace hS1 := Lib.hid (hS1.out.below hb3); replace hc9 := Lib.hid hc9; clear ho3 hb3)
          | (go_at_call 19; refine (hadR.out _ hx4).mono ?_; rintro e w4 ⟨rfl, hb4⟩; replace hS1 := Lib.hid (hS1.out.below hb4); replace hc9 := Lib.hid (hc9.out.below hb4); clear hb4)
          | (refine wpList_store_blkG rfl 29 _ _ rfl w4.heap.size rfl 29 [.int .u8 0, .int .u8 0, .int .u8 0, .int .u8 0, .int .u8 0, .int .u8 0, .int .u8 0, .int .u8 0, .int .u8 0, .int .u8 0, .int .u8 0, .int .u8 0, .int .u8 0, .int .u8 0, .int .u8 0, .int .u8 0, .int .u8 0, .int .u8 0, .int .u8 0, .int .u8 0] lx (BlkG.new w4 _ _) rfl (by rw [hlx]; rfl) (by rw [hlx]; kernel_rfl) h1lx ?_; intro w5 hc11 ho5; have hb5 := ho5.below (xalloc (xrefl w4) _) (xalloc (xrefl w4) (.cells ([.int .u8 0, .int .u8 0, .int .u8 0, .int .u8 0, .int .u8 0, .int .u8 0, .int .u8 0, .int .u8 0, .int .u8 0, .int .u8 0, .int .u8 0, .int .u8 0, .int .u8 0, .int .u8 0, .int .u8 0, .int .u8 0, .int .u8 0, .int .u8 0, .int .u8 0, .int .u8 0]).toArray 29)).size (by rintro k rfl; exact Nat.le_refl _); replace hS1 := Lib.hid (hS1.out.below hb5); replace hc9 := Lib.hid (hc9.out.below hb5); replace hc11 := Lib.hid hc11; clear ho5 hb5))
      go_upto_region 7 with (first
          | (refine wpList_load_blkG rfl 29 _ rfl p rfl 29 la _ hS1.out.X Tryz.underlying29 rfl (by rw [hla]; kernel_rfl) ?_)
          | (go_at_call 20; refine (hnm.out _).mono ?_; rintro e w6 ⟨rfl, hb6⟩; replace hS1 := Lib.hid (hS1.out.below hb6); replace hc9 := Lib.hid (hc9.out.below hb6); replace hc11 := Lib.hid (hc11.out.below hb6); clear hb6)
          | (go_at_call 18; refine (hadn.out _).mono ?_; rintro e w7 ⟨rfl, hb7⟩; replace hS1 := Lib.hid (hS1.out.below hb7); replace hc9 := Lib.hid (hc9.out.below hb7); replace hc11 := Lib.hid (hc11.out.below hb7); clear hb7)
          | (refine wpList_store_blkG rfl 29 _ _ rfl w7.heap.size rfl 29 [.int .u8 0, .int .u8 0, .int .u8 0, .int .u8 0, .int .u8 0, .int .u8 0, .int .u8 0, .int .u8 0, .int .u8 0, .int .u8 0, .int .u8 0, .int .u8 0, .int .u8 0, .int .u8 0, .int .u8 0, .int .u8 0, .int .u8 0, .int .u8 0, .int .u8 0, .int .u8 0] la (BlkG.new w7 _ _) rfl (by rw [hla]; rfl) (by rw [hla]; kernel_rfl) h1la ?_; intro w8 hc13 ho8; have hb8 := ho8.below (xalloc (xrefl w7) _) (xalloc (xrefl w7) (.cells ([.int .u8 0, .int .u8 0, .int .u8 0, .int .u8 0, .int .u8 0, .int .u8 0, .int .u8 0, .int .u8 0, .int .u8 0, .int .u8 0, .int .u8 0, .int .u8 0, .int .u8 0, .int .u8 0, .int .u8 0, .int .u8 0, .int .u8 0, .int .u8 0, .int .u8 0, .int .u8 0]).toArray 29)).size (by rintro k rfl; exact Nat.le_refl _); replace hS1 := Lib.hid (hS1.out.below hb8); replace hc9 := Lib.hid (hc9.out.below hb8); replace hc11 := Lib.hid (hc11.out.below hb8); replace hc13 := Lib.hid hc13; clear ho8 hb8))
      have hX7 := Lib.hid hS1.out.X
      have hY7 := Lib.hid hS1.out.Y
      have hW7 := Lib.hid hS1.out.W_
      have hwk := Lib.hid fun W (hb : Below w8.heap.size w8 W) => hwk0.out W (xtrans hS1.out.hb hb)
      clear hadP hadR hadn hwk0 hTt
      refine' wp_region_growL 79 [fixd (.agg la.toArray), fixd (.agg lb.toArray), fixd (.int .i64 oab), fixd (.agg la.toArray), fixd (.agg lb.toArray), fixd (.int .i64 oab), fixd (.bool true), fixd (.bool true), fixd (.agg la.toArray), fixd (.string ⟨nm.toArray⟩), fixd (.agg la.toArray), fixd (.string ⟨nm.toArray⟩), fixd (.bool true), fixd (.bool true), fixd (.bool true), fixd (.agg lx.toArray), fixd (.agg lx.toArray), fixd (.bool true), fixd (.bool true), fixd (.bool true), fixd (.int .i64 0), fixd (.int .i64 0), fixd (.bool true), fixd (.bool true), fixd (.bool true), fixd (.bool true), fixd (.bool true), fixd (.bool true), fixd (.bool true), fixd undef, fixd undef, fixd undef, fixd (.bool true), fixd (.bool true), fixd (.bool true), fixd (.agg la.toArray), fixd (.agg la.toArray), fixd (.bool true), fixd (.bool true), fixd (.bool true), fixd (.int .i64 0), fixd (.int .i64 0), fixd (.bool true), fixd (.bool true), fixd (.bool true), fixd (.agg la.toArray), fixd (.agg wn.toArray), fixd (.agg la.toArray), fixd (.agg wn.toArray), fixd (.bool true), fixd (.bool true), fixd (.bool true), fixd (.agg lw.toArray), fixd (.agg lm.toArray), fixd (.agg lw.toArray), fixd (.agg lm.toArray), fixd (.bool true), fixd (.bool true), fixd (.bool true), fixd (.agg la.toArray), fixd (.agg wn.toArray), fixd (.agg la.toArray), fixd (.agg la.toArray), fixd (.bool true), fixd (.bool true), fixd (.bool true), fixd (.agg la.toArray), fixd (.agg wn.toArray), fixd (.agg lb.toArray), fixd (.agg wb.toArray), fixd (.int .i64 oab), fixd (.agg la.toArray), fixd (.agg lb.toArray), fixd (.int .i64 oab), fixd (.bool true), fixd (.bool true), fixd (.bool true), fixd (.bool true), fixd (.bool true)] (by kernel_rfl) (by kernel_rfl) ?_
      simp only [List.take_succ_cons, List.take_zero, List.drop_succ_cons, List.drop_zero]
      try simp only [Act.put, List.setIfInBounds_toArray, List.set_cons_succ, List.set_cons_zero, List.nil_append, List.cons_append]
      apply wpGrowV_fix (.agg la.toArray) rfl rfl
      · intro W hb hF
        rw [exec_load_blkG 29 _ rfl p rfl 29 la _ (hX7.out.below hb) Tryz.underlying29 rfl (by rw [hla]; kernel_rfl)]
        exact ⟨rfl, xrefl W⟩
      try simp only [Act.put, List.setIfInBounds_toArray, List.set_cons_succ, List.set_cons_zero, List.nil_append, List.cons_append]
      apply wpGrowV_fix (.agg lb.toArray) rfl rfl
      · intro W hb hF
        rw [exec_load_blkG 29 _ rfl q rfl 29 lb _ (hY7.out.below hb) Tryz.underlying29 rfl (by rw [hlb]; kernel_rfl)]
        exact ⟨rfl, xrefl W⟩
      try simp only [Act.put, List.setIfInBounds_toArray, List.set_cons_succ, List.set_cons_zero, List.nil_append, List.cons_append]
      apply wpGrowV_fix (.int .i64 oab) rfl rfl
      · intro W hb hF
        go_simp
        go_at_call 21
        refine (hord.out W).mono ?_
        rintro e w' ⟨rfl, hb'⟩
        exact ⟨rfl, hb'⟩
      try simp only [Act.put, List.setIfInBounds_toArray, List.set_cons_succ, List.set_cons_zero, List.nil_append, List.cons_append]
      apply wpGrowV_fix (.agg la.toArray) rfl rfl
      · intro W hb hF
        rw [exec_load_blkG 29 _ rfl p rfl 29 la _ (hX7.out.below hb) Tryz.underlying29 rfl (by rw [hla]; kernel_rfl)]
        exact ⟨rfl, xrefl W⟩
      try simp only [Act.put, List.setIfInBounds_toArray, List.set_cons_succ, List.set_cons_zero, List.nil_append, List.cons_append]
      apply wpGrowV_fix (.agg lb.toArray) rfl rfl
      · intro W hb hF
        rw [exec_load_blkG 29 _ rfl q rfl 29 lb _ (hY7.out.below hb) Tryz.underlying29 rfl (by rw [hlb]; kernel_rfl)]
        exact ⟨rfl, xrefl W⟩
      try simp only [Act.put, List.setIfInBounds_toArray, List.set_cons_succ, List.set_cons_zero, List.nil_append, List.cons_append]
      apply wpGrowV_fix (.int .i64 oab) rfl rfl
      · intro W hb hF
        go_simp
        go_at_call 22
        refine (hror.out W).mono ?_
        rintro e w' ⟨rfl, hb'⟩
        exact ⟨rfl, hb'⟩
      try simp only [Act.put, List.setIfInBounds_toArray, List.set_cons_succ, List.set_cons_zero, List.nil_append, List.cons_append]
      apply wpGrowV_fix (.bool true) rfl rfl
      · intro W hb hF
        go_simp
        first | exact xrefl W | exact ⟨rfl, xrefl W⟩ | exact ⟨by omega, xrefl W⟩
      try simp only [Act.put, List.setIfInBounds_toArray, List.set_cons_succ, List.set_cons_zero, List.nil_append, List.cons_append]
      apply wpGrowV_fix (.bool true) rfl rfl
      · intro W hb hF
        go_simp
        first | exact xrefl W | exact ⟨rfl, xrefl W⟩ | exact ⟨by omega, xrefl W⟩
      try simp only [Act.put, List.setIfInBounds_toArray, List.set_cons_succ, List.set_cons_zero, List.nil_append, List.cons_append]
      apply wpGrowV_fix (.agg la.toArray) rfl rfl
      · intro W hb hF
        rw [exec_load_blkG 29 _ rfl p rfl 29 la _ (hX7.out.below hb) Tryz.underlying29 rfl (by rw [hla]; kernel_rfl)]
        exact ⟨rfl, xrefl W⟩
      try simp only [Act.put, List.setIfInBounds_toArray, List.set_cons_succ, List.set_cons_zero, List.nil_append, List.cons_append]
      apply wpGrowV_fix (.string ⟨nm.toArray⟩) rfl rfl
      · intro W hb hF
        go_simp
        go_at_call 20
        refine (hnm.out W).mono ?_
        rintro e w' ⟨rfl, hb'⟩
        exact ⟨rfl, hb'⟩
      try simp only [Act.put, List.setIfInBounds_toArray, List.set_cons_succ, List.set_cons_zero, List.nil_append, List.cons_append]
      apply wpGrowV_fix (.agg la.toArray) rfl rfl
      · intro W hb hF
        rw [exec_load_blkG 29 _ rfl p rfl 29 la _ (hX7.out.below hb) Tryz.underlying29 rfl (by rw [hla]; kernel_rfl)]
        exact ⟨rfl, xrefl W⟩
      try simp only [Act.put, List.setIfInBounds_toArray, List.set_cons_succ, List.set_cons_zero, List.nil_append, List.cons_append]
      apply wpGrowV_fix (.string ⟨nm.toArray⟩) rfl rfl
      · intro W hb hF
        go_simp
        go_at_call 23
        refine (hrnm.out W).mono ?_
        rintro e w' ⟨rfl, hb'⟩
        exact ⟨rfl, hb'⟩
      try simp only [Act.put, List.setIfInBounds_toArray, List.set_cons_succ, List.set_cons_zero, List.nil_append, List.cons_append]
      apply wpGrowV_fix (.bool true) rfl rfl
      · intro W hb hF
        go_simp
        first | exact xrefl W | exact ⟨rfl, xrefl W⟩ | exact ⟨by omega, xrefl W⟩
      try simp only [Act.put, List.setIfInBounds_toArray, List.set_cons_succ, List.set_cons_zero, List.nil_append, List.cons_append]
      apply wpGrowV_fix (.bool true) rfl rfl
      · intro W hb hF
        go_simp
        first | exact xrefl W | exact ⟨rfl, xrefl W⟩ | exact ⟨by omega, xrefl W⟩
      try simp only [Act.put, List.setIfInBounds_toArray, List.set_cons_succ, List.set_cons_zero, List.nil_append, List.cons_append]
      apply wpGrowV_fix (.bool true) rfl rfl
      · intro W hb hF
        go_simp
        first | exact xrefl W | exact ⟨rfl, xrefl W⟩ | exact ⟨by omega, xrefl W⟩
      try simp only [Act.put, List.setIfInBounds_toArray, List.set_cons_succ, List.set_cons_zero, List.nil_append, List.cons_append]
      apply wpGrowV_fix (.agg lx.toArray) rfl rfl
      · intro W hb hF
        rw [exec_load_blkG 29 _ rfl w2.heap.size rfl 29 lx _ (hc9.out.below hb) Tryz.underlying29 rfl (by rw [hlx]; kernel_rfl)]
        exact ⟨rfl, xrefl W⟩
      try simp only [Act.put, List.setIfInBounds_toArray, List.set_cons_succ, List.set_cons_zero, List.nil_append, List.cons_append]
      apply wpGrowV_fix (.agg lx.toArray) rfl rfl
      · intro W hb hF
        rw [exec_load_blkG 29 _ rfl w4.heap.size rfl 29 lx _ (hc11.out.below hb) Tryz.underlying29 rfl (by rw [hlx]; kernel_rfl)]
        exact ⟨rfl, xrefl W⟩
      try simp only [Act.put, List.setIfInBounds_toArray, List.set_cons_succ, List.set_cons_zero, List.nil_append, List.cons_append]
      apply wpGrowV_fix (.bool true) rfl rfl
      · intro W hb hF
        exact grows_okP (eqX.out W _ _ _ _ rfl rfl rfl) (xrefl W)
      try simp only [Act.put, List.setIfInBounds_toArray, List.set_cons_succ, List.set_cons_zero, List.nil_append, List.cons_append]
      apply wpGrowV_fix (.bool true) rfl rfl
      · intro W hb hF
        go_simp
        first | exact xrefl W | exact ⟨rfl, xrefl W⟩ | exact ⟨by omega, xrefl W⟩
      try simp only [Act.put, List.setIfInBounds_toArray, List.set_cons_succ, List.set_cons_zero, List.nil_append, List.cons_append]
      apply wpGrowV_fix (.bool true) rfl rfl
      · intro W hb hF
        go_simp
        first | exact xrefl W | exact ⟨rfl, xrefl W⟩ | exact ⟨by omega, xrefl W⟩
      try simp only [Act.put, List.setIfInBounds_toArray, List.set_cons_succ, List.set_cons_zero, List.nil_append, List.cons_append]
      apply wpGrowV_fix (.int .i64 0) rfl rfl
      · intro W hb hF
        go_simp
        first | exact xrefl W | exact ⟨rfl, xrefl W⟩ | exact ⟨by omega, xrefl W⟩
      try simp only [Act.put, List.setIfInBounds_toArray, List.set_cons_succ, List.set_cons_zero, List.nil_append, List.cons_append]
      apply wpGrowV_fix (.int .i64 0) rfl rfl
      · intro W hb hF
        go_simp
        go_at_call 13
        refine (num_anyP 0 W).mono ?_
        rintro e w' ⟨rfl, rfl⟩
        exact ⟨rfl, xrefl _⟩
      try simp only [Act.put, List.setIfInBounds_toArray, List.set_cons_succ, List.set_cons_zero, List.nil_append, List.cons_append]
      apply wpGrowV_fix (.bool true) rfl rfl
      · intro W hb hF
        go_simp
        first | exact xrefl W | exact ⟨rfl, xrefl W⟩ | exact ⟨by omega, xrefl W⟩
      try simp only [Act.put, List.setIfInBounds_toArray, List.set_cons_succ, List.set_cons_zero, List.nil_append, List.cons_append]
      apply wpGrowV_fix (.bool true) rfl rfl
      · intro W hb hF
        go_simp
        first | exact xrefl W | exact ⟨rfl, xrefl W⟩ | exact ⟨by omega, xrefl W⟩
      try simp only [Act.put, List.setIfInBounds_toArray, List.set_cons_succ, List.set_cons_zero, List.nil_append, List.cons_append]
      apply wpGrowV_fix (.bool true) rfl rfl
      · intro W hb hF
        go_simp
        first | exact xrefl W | exact ⟨rfl, xrefl W⟩ | exact ⟨by omega, xrefl W⟩
      try simp only [Act.put, List.setIfInBounds_toArray, List.set_cons_succ, List.set_cons_zero, List.nil_append, List.cons_append]
      apply wpGrowV_fix (.bool true) rfl rfl
      · intro W hb hF
        go_simp
        first | exact xrefl W | exact ⟨rfl, xrefl W⟩ | exact ⟨by omega, xrefl W⟩
      try simp only [Act.put, List.setIfInBounds_toArray, List.set_cons_succ, List.set_cons_zero, List.nil_append, List.cons_append]
      apply wpGrowV_fix (.bool true) rfl rfl
      · intro W hb hF
        go_simp
        first | exact xrefl W | exact ⟨rfl, xrefl W⟩ | exact ⟨by omega, xrefl W⟩
      try simp only [Act.put, List.setIfInBounds_toArray, List.set_cons_succ, List.set_cons_zero, List.nil_append, List.cons_append]
      apply wpGrowV_fix (.bool true) rfl rfl
      · intro W hb hF
        go_simp
        first | exact xrefl W | exact ⟨rfl, xrefl W⟩ | exact ⟨by omega, xrefl W⟩
      try simp only [Act.put, List.setIfInBounds_toArray, List.set_cons_succ, List.set_cons_zero, List.nil_append, List.cons_append]
      apply wpGrowV_fix (.bool true) rfl rfl
      · intro W hb hF
        go_simp
        first | exact xrefl W | exact ⟨rfl, xrefl W⟩ | exact ⟨by omega, xrefl W⟩
      try simp only [Act.put, List.setIfInBounds_toArray, List.set_cons_succ, List.set_cons_zero, List.nil_append, List.cons_append]
      refine wpGrowV_not rfl rfl ?_
      try simp only [Act.put, List.setIfInBounds_toArray, List.set_cons_succ, List.set_cons_zero, List.nil_append, List.cons_append]
      refine wpGrowV_not rfl rfl ?_
      try simp only [Act.put, List.setIfInBounds_toArray, List.set_cons_succ, List.set_cons_zero, List.nil_append, List.cons_append]
      refine wpGrowV_not rfl rfl ?_
      try simp only [Act.put, List.setIfInBounds_toArray, List.set_cons_succ, List.set_cons_zero, List.nil_append, List.cons_append]
      apply wpGrowV_fix (.bool true) rfl rfl
      · intro W hb hF
        go_simp
        first | exact xrefl W | exact ⟨rfl, xrefl W⟩ | exact ⟨by omega, xrefl W⟩
      try simp only [Act.put, List.setIfInBounds_toArray, List.set_cons_succ, List.set_cons_zero, List.nil_append, List.cons_append]
      apply wpGrowV_fix (.bool true) rfl rfl
      · intro W hb hF
        go_simp
        first | exact xrefl W | exact ⟨rfl, xrefl W⟩ | exact ⟨by omega, xrefl W⟩
      try simp only [Act.put, List.setIfInBounds_toArray, List.set_cons_succ, List.set_cons_zero, List.nil_append, List.cons_append]
      apply wpGrowV_fix (.bool true) rfl rfl
      · intro W hb hF
        go_simp
        first | exact xrefl W | exact ⟨rfl, xrefl W⟩ | exact ⟨by omega, xrefl W⟩
      try simp only [Act.put, List.setIfInBounds_toArray, List.set_cons_succ, List.set_cons_zero, List.nil_append, List.cons_append]
      apply wpGrowV_fix (.agg la.toArray) rfl rfl
      · intro W hb hF
        rw [exec_load_blkG 29 _ rfl w7.heap.size rfl 29 la _ (hc13.out.below hb) Tryz.underlying29 rfl (by rw [hla]; kernel_rfl)]
        exact ⟨rfl, xrefl W⟩
      try simp only [Act.put, List.setIfInBounds_toArray, List.set_cons_succ, List.set_cons_zero, List.nil_append, List.cons_append]
      apply wpGrowV_fix (.agg la.toArray) rfl rfl
      · intro W hb hF
        rw [exec_load_blkG 29 _ rfl p rfl 29 la _ (hX7.out.below hb) Tryz.underlying29 rfl (by rw [hla]; kernel_rfl)]
        exact ⟨rfl, xrefl W⟩
      try simp only [Act.put, List.setIfInBounds_toArray, List.set_cons_succ, List.set_cons_zero, List.nil_append, List.cons_append]
      apply wpGrowV_fix (.bool true) rfl rfl
      · intro W hb hF
        exact grows_okP (eqL.out W _ _ _ _ rfl rfl rfl) (xrefl W)
      try simp only [Act.put, List.setIfInBounds_toArray, List.set_cons_succ, List.set_cons_zero, List.nil_append, List.cons_append]
      apply wpGrowV_fix (.bool true) rfl rfl
      · intro W hb hF
        go_simp
        first | exact xrefl W | exact ⟨rfl, xrefl W⟩ | exact ⟨by omega, xrefl W⟩
      try simp only [Act.put, List.setIfInBounds_toArray, List.set_cons_succ, List.set_cons_zero, List.nil_append, List.cons_append]
      apply wpGrowV_fix (.bool true) rfl rfl
      · intro W hb hF
        go_simp
        first | exact xrefl W | exact ⟨rfl, xrefl W⟩ | exact ⟨by omega, xrefl W⟩
      try simp only [Act.put, List.setIfInBounds_toArray, List.set_cons_succ, List.set_cons_zero, List.nil_append, List.cons_append]
      apply wpGrowV_fix (.int .i64 0) rfl rfl
      · intro W hb hF
        go_simp
        first | exact xrefl W | exact ⟨rfl, xrefl W⟩ | exact ⟨by omega, xrefl W⟩
      try simp only [Act.put, List.setIfInBounds_toArray, List.set_cons_succ, List.set_cons_zero, List.nil_append, List.cons_append]
      apply wpGrowV_fix (.int .i64 0) rfl rfl
      · intro W hb hF
        go_simp
        go_at_call 13
        refine (num_anyP 0 W).mono ?_
        rintro e w' ⟨rfl, rfl⟩
        exact ⟨rfl, xrefl _⟩
      try simp only [Act.put, List.setIfInBounds_toArray, List.set_cons_succ, List.set_cons_zero, List.nil_append, List.cons_append]
      apply wpGrowV_fix (.bool true) rfl rfl
      · intro W hb hF
        go_simp
        first | exact xrefl W | exact ⟨rfl, xrefl W⟩ | exact ⟨by omega, xrefl W⟩
      try simp only [Act.put, List.setIfInBounds_toArray, List.set_cons_succ, List.set_cons_zero, List.nil_append, List.cons_append]
      apply wpGrowV_fix (.bool true) rfl rfl
      · intro W hb hF
        go_simp
        first | exact xrefl W | exact ⟨rfl, xrefl W⟩ | exact ⟨by omega, xrefl W⟩
      try simp only [Act.put, List.setIfInBounds_toArray, List.set_cons_succ, List.set_cons_zero, List.nil_append, List.cons_append]
      apply wpGrowV_fix (.bool true) rfl rfl
      · intro W hb hF
        go_simp
        first | exact xrefl W | exact ⟨rfl, xrefl W⟩ | exact ⟨by omega, xrefl W⟩
      try simp only [Act.put, List.setIfInBounds_toArray, List.set_cons_succ, List.set_cons_zero, List.nil_append, List.cons_append]
      apply wpGrowV_fix (.agg la.toArray) rfl rfl
      · intro W hb hF
        rw [exec_load_blkG 29 _ rfl p rfl 29 la _ (hX7.out.below hb) Tryz.underlying29 rfl (by rw [hla]; kernel_rfl)]
        exact ⟨rfl, xrefl W⟩
      try simp only [Act.put, List.setIfInBounds_toArray, List.set_cons_succ, List.set_cons_zero, List.nil_append, List.cons_append]
      apply wpGrowV_fix (.agg wn.toArray) rfl rfl
      · intro W hb hF
        go_simp
        go_at_call 24
        refine (hwd.out W).mono ?_
        rintro e w' ⟨rfl, hb'⟩
        exact ⟨rfl, hb'⟩
      try simp only [Act.put, List.setIfInBounds_toArray, List.set_cons_succ, List.set_cons_zero, List.nil_append, List.cons_append]
      apply wpGrowV_fix (.agg la.toArray) rfl rfl
      · intro W hb hF
        rw [exec_load_blkG 29 _ rfl p rfl 29 la _ (hX7.out.below hb) Tryz.underlying29 rfl (by rw [hla]; kernel_rfl)]
        exact ⟨rfl, xrefl W⟩
      try simp only [Act.put, List.setIfInBounds_toArray, List.set_cons_succ, List.set_cons_zero, List.nil_append, List.cons_append]
      apply wpGrowV_fix (.agg wn.toArray) rfl rfl
      · intro W hb hF
        go_simp
        go_at_call 25
        refine (hrwd.out W).mono ?_
        rintro e w' ⟨rfl, hb'⟩
        exact ⟨rfl, hb'⟩
      try simp only [Act.put, List.setIfInBounds_toArray, List.set_cons_succ, List.set_cons_zero, List.nil_append, List.cons_append]
      apply wpGrowV_fix (.bool true) rfl rfl
      · intro W hb hF
        exact grows_okP (eqW.out W _ _ _ _ rfl rfl rfl) (xrefl W)
      try simp only [Act.put, List.setIfInBounds_toArray, List.set_cons_succ, List.set_cons_zero, List.nil_append, List.cons_append]
      apply wpGrowV_fix (.bool true) rfl rfl
      · intro W hb hF
        go_simp
        first | exact xrefl W | exact ⟨rfl, xrefl W⟩ | exact ⟨by omega, xrefl W⟩
      try simp only [Act.put, List.setIfInBounds_toArray, List.set_cons_succ, List.set_cons_zero, List.nil_append, List.cons_append]
      apply wpGrowV_fix (.bool true) rfl rfl
      · intro W hb hF
        go_simp
        first | exact xrefl W | exact ⟨rfl, xrefl W⟩ | exact ⟨by omega, xrefl W⟩
      try simp only [Act.put, List.setIfInBounds_toArray, List.set_cons_succ, List.set_cons_zero, List.nil_append, List.cons_append]
      apply wpGrowV_fix (.agg lw.toArray) rfl rfl
      · intro W hb hF
        rw [exec_load_blkG 43 _ rfl (w.heap.size + 1) rfl 43 lw _ (hW7.out.below hb) Tryz.underlying43 rfl (by rw [hlw]; kernel_rfl)]
        exact ⟨rfl, xrefl W⟩
      try simp only [Act.put, List.setIfInBounds_toArray, List.set_cons_succ, List.set_cons_zero, List.nil_append, List.cons_append]
      apply wpGrowV_fix (.agg lm.toArray) rfl rfl
      · intro W hb hF
        go_simp
        go_at_call 26
        refine (hofm.out W).mono ?_
        rintro e w' ⟨rfl, hb'⟩
        exact ⟨rfl, hb'⟩
      try simp only [Act.put, List.setIfInBounds_toArray, List.set_cons_succ, List.set_cons_zero, List.nil_append, List.cons_append]
      apply wpGrowV_fix (.agg lw.toArray) rfl rfl
      · intro W hb hF
        rw [exec_load_blkG 43 _ rfl (w.heap.size + 1) rfl 43 lw _ (hW7.out.below hb) Tryz.underlying43 rfl (by rw [hlw]; kernel_rfl)]
        exact ⟨rfl, xrefl W⟩
      try simp only [Act.put, List.setIfInBounds_toArray, List.set_cons_succ, List.set_cons_zero, List.nil_append, List.cons_append]
      apply wpGrowV_fix (.agg lm.toArray) rfl rfl
      · intro W hb hF
        go_simp
        go_at_call 27
        refine (hrofm.out W).mono ?_
        rintro e w' ⟨rfl, hb'⟩
        exact ⟨rfl, hb'⟩
      try simp only [Act.put, List.setIfInBounds_toArray, List.set_cons_succ, List.set_cons_zero, List.nil_append, List.cons_append]
      apply wpGrowV_fix (.bool true) rfl rfl
      · intro W hb hF
        exact grows_okP (eqM.out W _ _ _ _ rfl rfl rfl) (xrefl W)
      try simp only [Act.put, List.setIfInBounds_toArray, List.set_cons_succ, List.set_cons_zero, List.nil_append, List.cons_append]
      apply wpGrowV_fix (.bool true) rfl rfl
      · intro W hb hF
        go_simp
        first | exact xrefl W | exact ⟨rfl, xrefl W⟩ | exact ⟨by omega, xrefl W⟩
      try simp only [Act.put, List.setIfInBounds_toArray, List.set_cons_succ, List.set_cons_zero, List.nil_append, List.cons_append]
      apply wpGrowV_fix (.bool true) rfl rfl
      · intro W hb hF
        go_simp
        first | exact xrefl W | exact ⟨rfl, xrefl W⟩ | exact ⟨by omega, xrefl W⟩
      try simp only [Act.put, List.setIfInBounds_toArray, List.set_cons_succ, List.set_cons_zero, List.nil_append, List.cons_append]
      apply wpGrowV_fix (.agg la.toArray) rfl rfl
      · intro W hb hF
        rw [exec_load_blkG 29 _ rfl p rfl 29 la _ (hX7.out.below hb) Tryz.underlying29 rfl (by rw [hla]; kernel_rfl)]
        exact ⟨rfl, xrefl W⟩
      try simp only [Act.put, List.setIfInBounds_toArray, List.set_cons_succ, List.set_cons_zero, List.nil_append, List.cons_append]
      apply wpGrowV_fix (.agg wn.toArray) rfl rfl
      · intro W hb hF
        go_simp
        go_at_call 24
        refine (hwd.out W).mono ?_
        rintro e w' ⟨rfl, hb'⟩
        exact ⟨rfl, hb'⟩
      try simp only [Act.put, List.setIfInBounds_toArray, List.set_cons_succ, List.set_cons_zero, List.nil_append, List.cons_append]
      apply wpGrowV_fix (.agg la.toArray) rfl rfl
      · intro W hb hF
        go_simp
        go_at_call 26
        refine (hofn.out W).mono ?_
        rintro e w' ⟨rfl, hb'⟩
        exact ⟨rfl, hb'⟩
      try simp only [Act.put, List.setIfInBounds_toArray, List.set_cons_succ, List.set_cons_zero, List.nil_append, List.cons_append]
      apply wpGrowV_fix (.agg la.toArray) rfl rfl
      · intro W hb hF
        rw [exec_load_blkG 29 _ rfl p rfl 29 la _ (hX7.out.below hb) Tryz.underlying29 rfl (by rw [hla]; kernel_rfl)]
        exact ⟨rfl, xrefl W⟩
      try simp only [Act.put, List.setIfInBounds_toArray, List.set_cons_succ, List.set_cons_zero, List.nil_append, List.cons_append]
      apply wpGrowV_fix (.bool true) rfl rfl
      · intro W hb hF
        exact grows_okP (eqL.out W _ _ _ _ rfl rfl rfl) (xrefl W)
      try simp only [Act.put, List.setIfInBounds_toArray, List.set_cons_succ, List.set_cons_zero, List.nil_append, List.cons_append]
      apply wpGrowV_fix (.bool true) rfl rfl
      · intro W hb hF
        go_simp
        first | exact xrefl W | exact ⟨rfl, xrefl W⟩ | exact ⟨by omega, xrefl W⟩
      try simp only [Act.put, List.setIfInBounds_toArray, List.set_cons_succ, List.set_cons_zero, List.nil_append, List.cons_append]
      apply wpGrowV_fix (.bool true) rfl rfl
      · intro W hb hF
        go_simp
        first | exact xrefl W | exact ⟨rfl, xrefl W⟩ | exact ⟨by omega, xrefl W⟩
      try simp only [Act.put, List.setIfInBounds_toArray, List.set_cons_succ, List.set_cons_zero, List.nil_append, List.cons_append]
      apply wpGrowV_fix (.agg la.toArray) rfl rfl
      · intro W hb hF
        rw [exec_load_blkG 29 _ rfl p rfl 29 la _ (hX7.out.below hb) Tryz.underlying29 rfl (by rw [hla]; kernel_rfl)]
        exact ⟨rfl, xrefl W⟩
      try simp only [Act.put, List.setIfInBounds_toArray, List.set_cons_succ, List.set_cons_zero, List.nil_append, List.cons_append]
      apply wpGrowV_fix (.agg wn.toArray) rfl rfl
      · intro W hb hF
        go_simp
        go_at_call 24
        refine (hwd.out W).mono ?_
        rintro e w' ⟨rfl, hb'⟩
        exact ⟨rfl, hb'⟩
      try simp only [Act.put, List.setIfInBounds_toArray, List.set_cons_succ, List.set_cons_zero, List.nil_append, List.cons_append]
      apply wpGrowV_fix (.agg lb.toArray) rfl rfl
      · intro W hb hF
        rw [exec_load_blkG 29 _ rfl q rfl 29 lb _ (hY7.out.below hb) Tryz.underlying29 rfl (by rw [hlb]; kernel_rfl)]
        exact ⟨rfl, xrefl W⟩
      try simp only [Act.put, List.setIfInBounds_toArray, List.set_cons_succ, List.set_cons_zero, List.nil_append, List.cons_append]
      apply wpGrowV_fix (.agg wb.toArray) rfl rfl
      · intro W hb hF
        go_simp
        go_at_call 24
        refine (hwdb.out W).mono ?_
        rintro e w' ⟨rfl, hb'⟩
        exact ⟨rfl, hb'⟩
      try simp only [Act.put, List.setIfInBounds_toArray, List.set_cons_succ, List.set_cons_zero, List.nil_append, List.cons_append]
      apply wpGrowV_fix (.int .i64 oab) rfl rfl
      · intro W hb hF
        go_simp
        go_at_call 28
        refine (hwo.out W).mono ?_
        rintro e w' ⟨rfl, hb'⟩
        exact ⟨rfl, hb'⟩
      try simp only [Act.put, List.setIfInBounds_toArray, List.set_cons_succ, List.set_cons_zero, List.nil_append, List.cons_append]
      apply wpGrowV_fix (.agg la.toArray) rfl rfl
      · intro W hb hF
        rw [exec_load_blkG 29 _ rfl p rfl 29 la _ (hX7.out.below hb) Tryz.underlying29 rfl (by rw [hla]; kernel_rfl)]
        exact ⟨rfl, xrefl W⟩
      try simp only [Act.put, List.setIfInBounds_toArray, List.set_cons_succ, List.set_cons_zero, List.nil_append, List.cons_append]
      apply wpGrowV_fix (.agg lb.toArray) rfl rfl
      · intro W hb hF
        rw [exec_load_blkG 29 _ rfl q rfl 29 lb _ (hY7.out.below hb) Tryz.underlying29 rfl (by rw [hlb]; kernel_rfl)]
        exact ⟨rfl, xrefl W⟩
      try simp only [Act.put, List.setIfInBounds_toArray, List.set_cons_succ, List.set_cons_zero, List.nil_append, List.cons_append]
      apply wpGrowV_fix (.int .i64 oab) rfl rfl
      · intro W hb hF
        go_simp
        go_at_call 22
        refine (hror.out W).mono ?_
        rintro e w' ⟨rfl, hb'⟩
        exact ⟨rfl, hb'⟩
      try simp only [Act.put, List.setIfInBounds_toArray, List.set_cons_succ, List.set_cons_zero, List.nil_append, List.cons_append]
      apply wpGrowV_fix (.bool true) rfl rfl
      · intro W hb hF
        go_simp
        first | exact xrefl W | exact ⟨rfl, xrefl W⟩ | exact ⟨by omega, xrefl W⟩
      try simp only [Act.put, List.setIfInBounds_toArray, List.set_cons_succ, List.set_cons_zero, List.nil_append, List.cons_append]
      apply wpGrowV_fix (.bool true) rfl rfl
      · intro W hb hF
        go_simp
        first | exact xrefl W | exact ⟨rfl, xrefl W⟩ | exact ⟨by omega, xrefl W⟩
      try simp only [Act.put, List.setIfInBounds_toArray, List.set_cons_succ, List.set_cons_zero, List.nil_append, List.cons_append]
      apply wpGrowV_fix (.bool true) rfl rfl
      · intro W hb hF
        go_simp
        first | exact xrefl W | exact ⟨rfl, xrefl W⟩ | exact ⟨by omega, xrefl W⟩
      try simp only [Act.put, List.setIfInBounds_toArray, List.set_cons_succ, List.set_cons_zero, List.nil_append, List.cons_append]
      apply wpGrowV_fix (.bool true) rfl rfl
      · intro W hb hF
        go_simp
        go_at_call 10
        refine (hwk.out W hb).mono ?_
        rintro e w' ⟨rfl, hb'⟩
        exact ⟨rfl, hb'⟩
      try simp only [Act.put, List.setIfInBounds_toArray, List.set_cons_succ, List.set_cons_zero, List.nil_append, List.cons_append]
      apply wpGrowV_fix (.bool true) rfl rfl
      · intro W hb hF
        go_simp
        first | exact xrefl W | exact ⟨rfl, xrefl W⟩ | exact ⟨by omega, xrefl W⟩
      try simp only [Act.put, List.setIfInBounds_toArray, List.set_cons_succ, List.set_cons_zero, List.nil_append, List.cons_append]
      refine wpGrowV_nil fun w9 hb9 _ => ?_
      replace hb9 := Lib.hid (xtrans hS1.out.hb hb9)
      go_wp2
      go_ret
      exact ⟨rfl, hb9.out⟩
    | false =>
      rw [hax] at hadP hadR
      simp only [Bool.false_eq_true, if_false] at hadP
      clear hax
      go_upto_region 6 with (first
          | (go_at_call 18; refine (hadP.out _ hx4).mono ?_; rintro e w2 ⟨rfl, hb2⟩; have hs2 := hb2.size; replace hS1 := Lib.hid (hS1.out.below hb2); clear hb2)
          | (refine wpList_store_blkG rfl 29 _ _ rfl w2.heap.size rfl 29 [.int .u8 0, .int .u8 0, .int .u8 0, .int .u8 0, .int .u8 0, .int .u8 0, .int .u8 0, .int .u8 0, .int .u8 0, .int .u8 0, .int .u8 0, .int .u8 0, .int .u8 0, .int .u8 0, .int .u8 0, .int .u8 0, .int .u8 0, .int .u8 0, .int .u8 0, .int .u8 0] lx (BlkG.new w2 _ _) rfl (by rw [hlx]; rfl) (by rw [hlx]; kernel_rfl) h1lx ?_; intro w3 hc9 ho3; have hb3 := ho3.below (xalloc (xrefl w2) _) (xalloc (xrefl w2) (.cells ([.int .u8 0, .int .u8 0, .int .u8 0, .int .u8 0, .int .u8 0, .int .u8 0, .int .u8 0, .int .u8 0, .int .u8 0, .int .u8 0, .int .u8 0, .int .u8 0, .int .u8 0, .int .u8 0, .int .u8 0, .int .u8 0, .int .u8 0, .int .u8 0, .int .u8 0, .int .u8 0]).toArray 29)).size (by rintro k rfl; exact Nat.le_refl _); replace hS1 := Lib.hid (hS1.out.below hb3); replace hc9 := Lib.hid hc9; clear ho3 hb3)
          | (go_at_call 19; refine (hadR.out _ hx4).mono ?_; rintro e w4 ⟨rfl, hb4⟩; replace hS1 := Lib.hid (hS1.out.below hb4); replace hc9 := Lib.hid (hc9.out.below hb4); clear hb4)
          | (refine wpList_store_blkG rfl 29 _ _ rfl w4.heap.size rfl 29 [.int .u8 0, .int .u8 0, .int .u8 0, .int .u8 0, .int .u8 0, .int .u8 0, .int .u8 0, .int .u8 0, .int .u8 0, .int .u8 0, .int .u8 0, .int .u8 0, .int .u8 0, .int .u8 0, .int .u8 0, .int .u8 0, .int .u8 0, .int .u8 0, .int .u8 0, .int .u8 0] lx (BlkG.new w4 _ _) rfl (by rw [hlx]; rfl) (by rw [hlx]; kernel_rfl) h1lx ?_; intro w5 hc11 ho5; have hb5 := ho5.below (xalloc (xrefl w4) _) (xalloc (xrefl w4) (.cells ([.int .u8 0, .int .u8 0, .int .u8 0, .int .u8 0, .int .u8 0, .int .u8 0, .int .u8 0, .int .u8 0, .int .u8 0, .int .u8 0, .int .u8 0, .int .u8 0, .int .u8 0, .int .u8 0, .int .u8 0, .int .u8 0, .int .u8 0, .int .u8 0, .int .u8 0, .int .u8 0]).toArray 29)).size (by rintro k rfl; exact Nat.le_refl _); replace hS1 := Lib.hid (hS1.out.below hb5); replace hc9 := Lib.hid (hc9.out.below hb5); replace hc11 := Lib.hid hc11; clear ho5 hb5))
      go_upto_region 7 with (first
          | (refine wpList_load_blkG rfl 29 _ rfl p rfl 29 la _ hS1.out.X Tryz.underlying29 rfl (by rw [hla]; kernel_rfl) ?_)
          | (go_at_call 20; refine (hnm.out _).mono ?_; rintro e w6 ⟨rfl, hb6⟩; replace hS1 := Lib.hid (hS1.out.below hb6); replace hc9 := Lib.hid (hc9.out.below hb6); replace hc11 := Lib.hid (hc11.out.below hb6); clear hb6)
          | (go_at_call 18; refine (hadn.out _).mono ?_; rintro e w7 ⟨rfl, hb7⟩; replace hS1 := Lib.hid (hS1.out.below hb7); replace hc9 := Lib.hid (hc9.out.below hb7); replace hc11 := Lib.hid (hc11.out.below hb7); clear hb7)
          | (refine wpList_store_blkG rfl 29 _ _ rfl w7.heap.size rfl 29 [.int .u8 0, .int .u8 0, .int .u8 0, .int .u8 0, .int .u8 0, .int .u8 0, .int .u8 0, .int .u8 0, .int .u8 0, .int .u8 0, .int .u8 0, .int .u8 0, .int .u8 0, .int .u8 0, .int .u8 0, .int .u8 0, .int .u8 0, .int .u8 0, .int .u8 0, .int .u8 0] la (BlkG.new w7 _ _) rfl (by rw [hla]; rfl) (by rw [hla]; kernel_rfl) h1la ?_; intro w8 hc13 ho8; have hb8 := ho8.below (xalloc (xrefl w7) _) (xalloc (xrefl w7) (.cells ([.int .u8 0, .int .u8 0, .int .u8 0, .int .u8 0, .int .u8 0, .int .u8 0, .int .u8 0, .int .u8 0, .int .u8 0, .int .u8 0, .int .u8 0, .int .u8 0, .int .u8 0, .int .u8 0, .int .u8 0, .int .u8 0, .int .u8 0, .int .u8 0, .int .u8 0, .int .u8 0]).toArray 29)).size (by rintro k rfl; exact Nat.le_refl _); replace hS1 := Lib.hid (hS1.out.below hb8); replace hc9 := Lib.hid (hc9.out.below hb8); replace hc11 := Lib.hid (hc11.out.below hb8); replace hc13 := Lib.hid hc13; clear ho8 hb8))
      have hX7 := Lib.hid hS1.out.X
      have hY7 := Lib.hid hS1.out.Y
      have hW7 := Lib.hid hS1.out.W_
      have hwk := Lib.hid fun W (hb : Below w8.heap.size w8 W) => hwk0.out W (xtrans hS1.out.hb hb)
      clear hadP hadR hadn hwk0 hTt
      refine' wp_region_growL 79 [fixd (.agg la.toArray), fixd (.agg lb.toArray), fixd (.int .i64 oab), fixd (.agg la.toArray), fixd (.agg lb.toArray), fixd (.int .i64 oab), fixd (.bool true), fixd (.bool true), fixd (.agg la.toArray), fixd (.string ⟨nm.toArray⟩), fixd (.agg la.toArray), fixd (.string ⟨nm.toArray⟩), fixd (.bool true), fixd (.bool true), fixd (.bool true), fixd (.agg lx.toArray), fixd (.agg lx.toArray), fixd (.bool true), fixd (.bool true), fixd (.bool true), fixd (.int .i64 190), fixd (.int .i64 190), fixd (.bool false), fixd (.bool false), fixd (.bool true), fixd (.bool true), fixd (.bool true), fixd (.bool false), fixd (.bool false), fixd (.int .i64 190), fixd (.int .i64 190), fixd (.bool true), fixd (.bool true), fixd (.bool true), fixd (.bool true), fixd (.agg la.toArray), fixd (.agg la.toArray), fixd (.bool true), fixd (.bool true), fixd (.bool true), fixd (.int .i64 0), fixd (.int .i64 0), fixd (.bool true), fixd (.bool true), fixd (.bool true), fixd (.agg la.toArray), fixd (.agg wn.toArray), fixd (.agg la.toArray), fixd (.agg wn.toArray), fixd (.bool true), fixd (.bool true), fixd (.bool true), fixd (.agg lw.toArray), fixd (.agg lm.toArray), fixd (.agg lw.toArray), fixd (.agg lm.toArray), fixd (.bool true), fixd (.bool true), fixd (.bool true), fixd (.agg la.toArray), fixd (.agg wn.toArray), fixd (.agg la.toArray), fixd (.agg la.toArray), fixd (.bool true), fixd (.bool true), fixd (.bool true), fixd (.agg la.toArray), fixd (.agg wn.toArray), fixd (.agg lb.toArray), fixd (.agg wb.toArray), fixd (.int .i64 oab), fixd (.agg la.toArray), fixd (.agg lb.toArray), fixd (.int .i64 oab), fixd (.bool true), fixd (.bool true), fixd (.bool true), fixd (.bool true), fixd (.bool true)] (by kernel_rfl) (by kernel_rfl) ?_
      simp only [List.take_succ_cons, List.take_zero, List.drop_succ_cons, List.drop_zero]
      try simp only [Act.put, List.setIfInBounds_toArray, List.set_cons_succ, List.set_cons_zero, List.nil_append, List.cons_append]
      apply wpGrowV_fix (.agg la.toArray) rfl rfl
      · intro W hb hF
        rw [exec_load_blkG 29 _ rfl p rfl 29 la _ (hX7.out.below hb) Tryz.underlying29 rfl (by rw [hla]; kernel_rfl)]
        exact ⟨rfl, xrefl W⟩
      try simp only [Act.put, List.setIfInBounds_toArray, List.set_cons_succ, List.set_cons_zero, List.nil_append, List.cons_append]
      apply wpGrowV_fix (.agg lb.toArray) rfl rfl
      · intro W hb hF
        rw [exec_load_blkG 29 _ rfl q rfl 29 lb _ (hY7.out.below hb) Tryz.underlying29 rfl (by rw [hlb]; kernel_rfl)]
        exact ⟨rfl, xrefl W⟩
      try simp only [Act.put, List.setIfInBounds_toArray, List.set_cons_succ, List.set_cons_zero, List.nil_append, List.cons_append]
      apply wpGrowV_fix (.int .i64 oab) rfl rfl
      · intro W hb hF
        go_simp
        go_at_call 21
        refine (hord.out W).mono ?_
        rintro e w' ⟨rfl, hb'⟩
        exact ⟨rfl, hb'⟩
      try simp only [Act.put, List.setIfInBounds_toArray, List.set_cons_succ, List.set_cons_zero, List.nil_append, List.cons_append]
      apply wpGrowV_fix (.agg la.toArray) rfl rfl
      · intro W hb hF
        rw [exec_load_blkG 29 _ rfl p rfl 29 la _ (hX7.out.below hb) Tryz.underlying29 rfl (by rw [hla]; kernel_rfl)]
        exact ⟨rfl, xrefl W⟩
      try simp only [Act.put, List.setIfInBounds_toArray, List.set_cons_succ, List.set_cons_zero, List.nil_append, List.cons_append]
      apply wpGrowV_fix (.agg lb.toArray) rfl rfl
      · intro W hb hF
        rw [exec_load_blkG 29 _ rfl q rfl 29 lb _ (hY7.out.below hb) Tryz.underlying29 rfl (by rw [hlb]; kernel_rfl)]
        exact ⟨rfl, xrefl W⟩
      try simp only [Act.put, List.setIfInBounds_toArray, List.set_cons_succ, List.set_cons_zero, List.nil_append, List.cons_append]
      apply wpGrowV_fix (.int .i64 oab) rfl rfl
      · intro W hb hF
        go_simp
        go_at_call 22
        refine (hror.out W).mono ?_
        rintro e w' ⟨rfl, hb'⟩
        exact ⟨rfl, hb'⟩
      try simp only [Act.put, List.setIfInBounds_toArray, List.set_cons_succ, List.set_cons_zero, List.nil_append, List.cons_append]
      apply wpGrowV_fix (.bool true) rfl rfl
      · intro W hb hF
        go_simp
        first | exact xrefl W | exact ⟨rfl, xrefl W⟩ | exact ⟨by omega, xrefl W⟩
      try simp only [Act.put, List.setIfInBounds_toArray, List.set_cons_succ, List.set_cons_zero, List.nil_append, List.cons_append]
      apply wpGrowV_fix (.bool true) rfl rfl
      · intro W hb hF
        go_simp
        first | exact xrefl W | exact ⟨rfl, xrefl W⟩ | exact ⟨by omega, xrefl W⟩
      try simp only [Act.put, List.setIfInBounds_toArray, List.set_cons_succ, List.set_cons_zero, List.nil_append, List.cons_append]
      apply wpGrowV_fix (.agg la.toArray) rfl rfl
      · intro W hb hF
        rw [exec_load_blkG 29 _ rfl p rfl 29 la _ (hX7.out.below hb) Tryz.underlying29 rfl (by rw [hla]; kernel_rfl)]
        exact ⟨rfl, xrefl W⟩
      try simp only [Act.put, List.setIfInBounds_toArray, List.set_cons_succ, List.set_cons_zero, List.nil_append, List.cons_append]
      apply wpGrowV_fix (.string ⟨nm.toArray⟩) rfl rfl
      · intro W hb hF
        go_simp
        go_at_call 20
        refine (hnm.out W).mono ?_
        rintro e w' ⟨rfl, hb'⟩
        exact ⟨rfl, hb'⟩
      try simp only [Act.put, List.setIfInBounds_toArray, List.set_cons_succ, List.set_cons_zero, List.nil_append, List.cons_append]
      apply wpGrowV_fix (.agg la.toArray) rfl rfl
      · intro W hb hF
        rw [exec_load_blkG 29 _ rfl p rfl 29 la _ (hX7.out.below hb) Tryz.underlying29 rfl (by rw [hla]; kernel_rfl)]
        exact ⟨rfl, xrefl W⟩
      try simp only [Act.put, List.setIfInBounds_toArray, List.set_cons_succ, List.set_cons_zero, List.nil_append, List.cons_append]
      apply wpGrowV_fix (.string ⟨nm.toArray⟩) rfl rfl
      · intro W hb hF
        go_simp
        go_at_call 23
        refine (hrnm.out W).mono ?_
        rintro e w' ⟨rfl, hb'⟩
        exact ⟨rfl, hb'⟩
      try simp only [Act.put, List.setIfInBounds_toArray, List.set_cons_succ, List.set_cons_zero, List.nil_append, List.cons_append]
      apply wpGrowV_fix (.bool true) rfl rfl
      · intro W hb hF
        go_simp
        first | exact xrefl W | exact ⟨rfl, xrefl W⟩ | exact ⟨by omega, xrefl W⟩
      try simp only [Act.put, List.setIfInBounds_toArray, List.set_cons_succ, List.set_cons_zero, List.nil_append, List.cons_append]
      apply wpGrowV_fix (.bool true) rfl rfl
      · intro W hb hF
        go_simp
        first | exact xrefl W | exact ⟨rfl, xrefl W⟩ | exact ⟨by omega, xrefl W⟩
      try simp only [Act.put, List.setIfInBounds_toArray, List.set_cons_succ, List.set_cons_zero, List.nil_append, List.cons_append]
      apply wpGrowV_fix (.bool true) rfl rfl
      · intro W hb hF
        go_simp
        first | exact xrefl W | exact ⟨rfl, xrefl W⟩ | exact ⟨by omega, xrefl W⟩
      try simp only [Act.put, List.setIfInBounds_toArray, List.set_cons_succ, List.set_cons_zero, List.nil_append, List.cons_append]
      apply wpGrowV_fix (.agg lx.toArray) rfl rfl
      · intro W hb hF
        rw [exec_load_blkG 29 _ rfl w2.heap.size rfl 29 lx _ (hc9.out.below hb) Tryz.underlying29 rfl (by rw [hlx]; kernel_rfl)]
        exact ⟨rfl, xrefl W⟩
      try simp only [Act.put, List.setIfInBounds_toArray, List.set_cons_succ, List.set_cons_zero, List.nil_append, List.cons_append]
      apply wpGrowV_fix (.agg lx.toArray) rfl rfl
      · intro W hb hF
        rw [exec_load_blkG 29 _ rfl w4.heap.size rfl 29 lx _ (hc11.out.below hb) Tryz.underlying29 rfl (by rw [hlx]; kernel_rfl)]
        exact ⟨rfl, xrefl W⟩
      try simp only [Act.put, List.setIfInBounds_toArray, List.set_cons_succ, List.set_cons_zero, List.nil_append, List.cons_append]
      apply wpGrowV_fix (.bool true) rfl rfl
      · intro W hb hF
        exact grows_okP (eqX.out W _ _ _ _ rfl rfl rfl) (xrefl W)
      try simp only [Act.put, List.setIfInBounds_toArray, List.set_cons_succ, List.set_cons_zero, List.nil_append, List.cons_append]
      apply wpGrowV_fix (.bool true) rfl rfl
      · intro W hb hF
        go_simp
        first | exact xrefl W | exact ⟨rfl, xrefl W⟩ | exact ⟨by omega, xrefl W⟩
      try simp only [Act.put, List.setIfInBounds_toArray, List.set_cons_succ, List.set_cons_zero, List.nil_append, List.cons_append]
      apply wpGrowV_fix (.bool true) rfl rfl
      · intro W hb hF
        go_simp
        first | exact xrefl W | exact ⟨rfl, xrefl W⟩ | exact ⟨by omega, xrefl W⟩
      try simp only [Act.put, List.setIfInBounds_toArray, List.set_cons_succ, List.set_cons_zero, List.nil_append, List.cons_append]
      apply wpGrowV_fix (.int .i64 190) rfl rfl
      · intro W hb hF
        go_simp
        first | exact xrefl W | exact ⟨rfl, xrefl W⟩ | exact ⟨by omega, xrefl W⟩
      try simp only [Act.put, List.setIfInBounds_toArray, List.set_cons_succ, List.set_cons_zero, List.nil_append, List.cons_append]
      apply wpGrowV_fix (.int .i64 190) rfl rfl
      · intro W hb hF
        go_simp
        go_at_call 13
        refine (num_anyP 190 W).mono ?_
        rintro e w' ⟨rfl, rfl⟩
        exact ⟨rfl, xrefl _⟩
      try simp only [Act.put, List.setIfInBounds_toArray, List.set_cons_succ, List.set_cons_zero, List.nil_append, List.cons_append]
      apply wpGrowV_fix (.bool false) rfl rfl
      · intro W hb hF
        go_simp
        first | exact xrefl W | exact ⟨rfl, xrefl W⟩ | exact ⟨by omega, xrefl W⟩
      try simp only [Act.put, List.setIfInBounds_toArray, List.set_cons_succ, List.set_cons_zero, List.nil_append, List.cons_append]
      apply wpGrowV_fix (.bool false) rfl rfl
      · intro W hb hF
        go_simp
        first | exact xrefl W | exact ⟨rfl, xrefl W⟩ | exact ⟨by omega, xrefl W⟩
      try simp only [Act.put, List.setIfInBounds_toArray, List.set_cons_succ, List.set_cons_zero, List.nil_append, List.cons_append]
      apply wpGrowV_fix (.bool true) rfl rfl
      · intro W hb hF
        go_simp
        first | exact xrefl W | exact ⟨rfl, xrefl W⟩ | exact ⟨by omega, xrefl W⟩
      try simp only [Act.put, List.setIfInBounds_toArray, List.set_cons_succ, List.set_cons_zero, List.nil_append, List.cons_append]
      apply wpGrowV_fix (.bool true) rfl rfl
      · intro W hb hF
        go_simp
        first | exact xrefl W | exact ⟨rfl, xrefl W⟩ | exact ⟨by omega, xrefl W⟩
      try simp only [Act.put, List.setIfInBounds_toArray, List.set_cons_succ, List.set_cons_zero, List.nil_append, List.cons_append]
      apply wpGrowV_fix (.bool true) rfl rfl
      · intro W hb hF
        go_simp
        first | exact xrefl W | exact ⟨rfl, xrefl W⟩ | exact ⟨by omega, xrefl W⟩
      try simp only [Act.put, List.setIfInBounds_toArray, List.set_cons_succ, List.set_cons_zero, List.nil_append, List.cons_append]
      apply wpGrowV_fix (.bool false) rfl rfl
      · intro W hb hF
        go_simp
        first | exact xrefl W | exact ⟨rfl, xrefl W⟩ | exact ⟨by omega, xrefl W⟩
      try simp only [Act.put, List.setIfInBounds_toArray, List.set_cons_succ, List.set_cons_zero, List.nil_append, List.cons_append]
      apply wpGrowV_fix (.bool false) rfl rfl
      · intro W hb hF
        go_simp
        first | exact xrefl W | exact ⟨rfl, xrefl W⟩ | exact ⟨by omega, xrefl W⟩
      try simp only [Act.put, List.setIfInBounds_toArray, List.set_cons_succ, List.set_cons_zero, List.nil_append, List.cons_append]
      apply wpGrowV_fix (.int .i64 190) rfl rfl
      · intro W hb hF
        go_simp
        first | exact xrefl W | exact ⟨rfl, xrefl W⟩ | exact ⟨by omega, xrefl W⟩
      try simp only [Act.put, List.setIfInBounds_toArray, List.set_cons_succ, List.set_cons_zero, List.nil_append, List.cons_append]
      apply wpGrowV_fix (.int .i64 190) rfl rfl
      · intro W hb hF
        go_simp
        go_at_call 13
        refine (num_anyP 190 W).mono ?_
        rintro e w' ⟨rfl, rfl⟩
        exact ⟨rfl, xrefl _⟩
      try simp only [Act.put, List.setIfInBounds_toArray, List.set_cons_succ, List.set_cons_zero, List.nil_append, List.cons_append]
      apply wpGrowV_fix (.bool true) rfl rfl
      · intro W hb hF
        go_simp
        first | exact xrefl W | exact ⟨rfl, xrefl W⟩ | exact ⟨by omega, xrefl W⟩
      try simp only [Act.put, List.setIfInBounds_toArray, List.set_cons_succ, List.set_cons_zero, List.nil_append, List.cons_append]
      apply wpGrowV_fix (.bool true) rfl rfl
      · intro W hb hF
        go_simp
        first | exact xrefl W | exact ⟨rfl, xrefl W⟩ | exact ⟨by omega, xrefl W⟩
      try simp only [Act.put, List.setIfInBounds_toArray, List.set_cons_succ, List.set_cons_zero, List.nil_append, List.cons_append]
      apply wpGrowV_fix (.bool true) rfl rfl
      · intro W hb hF
        go_simp
        first | exact xrefl W | exact ⟨rfl, xrefl W⟩ | exact ⟨by omega, xrefl W⟩
      try simp only [Act.put, List.setIfInBounds_toArray, List.set_cons_succ, List.set_cons_zero, List.nil_append, List.cons_append]
      apply wpGrowV_fix (.bool true) rfl rfl
      · intro W hb hF
        go_simp
        first | exact xrefl W | exact ⟨rfl, xrefl W⟩ | exact ⟨by omega, xrefl W⟩
      try simp only [Act.put, List.setIfInBounds_toArray, List.set_cons_succ, List.set_cons_zero, List.nil_append, List.cons_append]
      apply wpGrowV_fix (.agg la.toArray) rfl rfl
      · intro W hb hF
        rw [exec_load_blkG 29 _ rfl w7.heap.size rfl 29 la _ (hc13.out.below hb) Tryz.underlying29 rfl (by rw [hla]; kernel_rfl)]
        exact ⟨rfl, xrefl W⟩
      try simp only [Act.put, List.setIfInBounds_toArray, List.set_cons_succ, List.set_cons_zero, List.nil_append, List.cons_append]
      apply wpGrowV_fix (.agg la.toArray) rfl rfl
      · intro W hb hF
        rw [exec_load_blkG 29 _ rfl p rfl 29 la _ (hX7.out.below hb) Tryz.underlying29 rfl (by rw [hla]; kernel_rfl)]
        exact ⟨rfl, xrefl W⟩
      try simp only [Act.put, List.setIfInBounds_toArray, List.set_cons_succ, List.set_cons_zero, List.nil_append, List.cons_append]
      apply wpGrowV_fix (.bool true) rfl rfl
      · intro W hb hF
        exact grows_okP (eqL.out W _ _ _ _ rfl rfl rfl) (xrefl W)
      try simp only [Act.put, List.setIfInBounds_toArray, List.set_cons_succ, List.set_cons_zero, List.nil_append, List.cons_append]
      apply wpGrowV_fix (.bool true) rfl rfl
      · intro W hb hF
        go_simp
        first | exact xrefl W | exact ⟨rfl, xrefl W⟩ | exact ⟨by omega, xrefl W⟩
      try simp only [Act.put, List.setIfInBounds_toArray, List.set_cons_succ, List.set_cons_zero, List.nil_append, List.cons_append]
      apply wpGrowV_fix (.bool true) rfl rfl
      · intro W hb hF
        go_simp
        first | exact xrefl W | exact ⟨rfl, xrefl W⟩ | exact ⟨by omega, xrefl W⟩
      try simp only [Act.put, List.setIfInBounds_toArray, List.set_cons_succ, List.set_cons_zero, List.nil_append, List.cons_append]
      apply wpGrowV_fix (.int .i64 0) rfl rfl
      · intro W hb hF
        go_simp
        first | exact xrefl W | exact ⟨rfl, xrefl W⟩ | exact ⟨by omega, xrefl W⟩
      try simp only [Act.put, List.setIfInBounds_toArray, List.set_cons_succ, List.set_cons_zero, List.nil_append, List.cons_append]
      apply wpGrowV_fix (.int .i64 0) rfl rfl
      · intro W hb hF
        go_simp
        go_at_call 13
        refine (num_anyP 0 W).mono ?_
        rintro e w' ⟨rfl, rfl⟩
        exact ⟨rfl, xrefl _⟩
      try simp only [Act.put, List.setIfInBounds_toArray, List.set_cons_succ, List.set_cons_zero, List.nil_append, List.cons_append]
      apply wpGrowV_fix (.bool true) rfl rfl
      · intro W hb hF
        go_simp
        first | exact xrefl W | exact ⟨rfl, xrefl W⟩ | exact ⟨by omega, xrefl W⟩
      try simp only [Act.put, List.setIfInBounds_toArray, List.set_cons_succ, List.set_cons_zero, List.nil_append, List.cons_append]
      apply wpGrowV_fix (.bool true) rfl rfl
      · intro W hb hF
        go_simp
        first | exact xrefl W | exact ⟨rfl, xrefl W⟩ | exact ⟨by omega, xrefl W⟩
      try simp only [Act.put, List.setIfInBounds_toArray, List.set_cons_succ, List.set_cons_zero, List.nil_append, List.cons_append]
      apply wpGrowV_fix (.bool true) rfl rfl
      · intro W hb hF
        go_simp
        first | exact xrefl W | exact ⟨rfl, xrefl W⟩ | exact ⟨by omega, xrefl W⟩
      try simp only [Act.put, List.setIfInBounds_toArray, List.set_cons_succ, List.set_cons_zero, List.nil_append, List.cons_append]
      apply wpGrowV_fix (.agg la.toArray) rfl rfl
      · intro W hb hF
        rw [exec_load_blkG 29 _ rfl p rfl 29 la _ (hX7.out.below hb) Tryz.underlying29 rfl (by rw [hla]; kernel_rfl)]
        exact ⟨rfl, xrefl W⟩
      try simp only [Act.put, List.setIfInBounds_toArray, List.set_cons_succ, List.set_cons_zero, List.nil_append, List.cons_append]
      apply wpGrowV_fix (.agg wn.toArray) rfl rfl
      · intro W hb hF
        go_simp
        go_at_call 24
        refine (hwd.out W).mono ?_
        rintro e w' ⟨rfl, hb'⟩
        exact ⟨rfl, hb'⟩
      try simp only [Act.put, List.setIfInBounds_toArray, List.set_cons_succ, List.set_cons_zero, List.nil_append, List.cons_append]
      apply wpGrowV_fix (.agg la.toArray) rfl rfl
      · intro W hb hF
        rw [exec_load_blkG 29 _ rfl p rfl 29 la _ (hX7.out.below hb) Tryz.underlying29 rfl (by rw [hla]; kernel_rfl)]
        exact ⟨rfl, xrefl W⟩
      try simp only [Act.put, List.setIfInBounds_toArray, List.set_cons_succ, List.set_cons_zero, List.nil_append, List.cons_append]
      apply wpGrowV_fix (.agg wn.toArray) rfl rfl
      · intro W hb hF
        go_simp
        go_at_call 25
        refine (hrwd.out W).mono ?_
        rintro e w' ⟨rfl, hb'⟩
        exact ⟨rfl, hb'⟩
      try simp only [Act.put, List.setIfInBounds_toArray, List.set_cons_succ, List.set_cons_zero, List.nil_append, List.cons_append]
      apply wpGrowV_fix (.bool true) rfl rfl
      · intro W hb hF
        exact grows_okP (eqW.out W _ _ _ _ rfl rfl rfl) (xrefl W)
      try simp only [Act.put, List.setIfInBounds_toArray, List.set_cons_succ, List.set_cons_zero, List.nil_append, List.cons_append]
      apply wpGrowV_fix (.bool true) rfl rfl
      · intro W hb hF
        go_simp
        first | exact xrefl W | exact ⟨rfl, xrefl W⟩ | exact ⟨by omega, xrefl W⟩
      try simp only [Act.put, List.setIfInBounds_toArray, List.set_cons_succ, List.set_cons_zero, List.nil_append, List.cons_append]
      apply wpGrowV_fix (.bool true) rfl rfl
      · intro W hb hF
        go_simp
        first | exact xrefl W | exact ⟨rfl, xrefl W⟩ | exact ⟨by omega, xrefl W⟩
      try simp only [Act.put, List.setIfInBounds_toArray, List.set_cons_succ, List.set_cons_zero, List.nil_append, List.cons_append]
      apply wpGrowV_fix (.agg lw.toArray) rfl rfl
      · intro W hb hF
        rw [exec_load_blkG 43 _ rfl (w.heap.size + 1) rfl 43 lw _ (hW7.out.below hb) Tryz.underlying43 rfl (by rw [hlw]; kernel_rfl)]
        exact ⟨rfl, xrefl W⟩
      try simp only [Act.put, List.setIfInBounds_toArray, List.set_cons_succ, List.set_cons_zero, List.nil_append, List.cons_append]
      apply wpGrowV_fix (.agg lm.toArray) rfl rfl
      · intro W hb hF
        go_simp
        go_at_call 26
        refine (hofm.out W).mono ?_
        rintro e w' ⟨rfl, hb'⟩
        exact ⟨rfl, hb'⟩
      try simp only [Act.put, List.setIfInBounds_toArray, List.set_cons_succ, List.set_cons_zero, List.nil_append, List.cons_append]
      apply wpGrowV_fix (.agg lw.toArray) rfl rfl
      · intro W hb hF
        rw [exec_load_blkG 43 _ rfl (w.heap.size + 1) rfl 43 lw _ (hW7.out.below hb) Tryz.underlying43 rfl (by rw [hlw]; kernel_rfl)]
        exact ⟨rfl, xrefl W⟩
      try simp only [Act.put, List.setIfInBounds_toArray, List.set_cons_succ, List.set_cons_zero, List.nil_append, List.cons_append]
      apply wpGrowV_fix (.agg lm.toArray) rfl rfl
      · intro W hb hF
        go_simp
        go_at_call 27
        refine (hrofm.out W).mono ?_
        rintro e w' ⟨rfl, hb'⟩
        exact ⟨rfl, hb'⟩
      try simp only [Act.put, List.setIfInBounds_toArray, List.set_cons_succ, List.set_cons_zero, List.nil_append, List.cons_append]
      apply wpGrowV_fix (.bool true) rfl rfl
      · intro W hb hF
        exact grows_okP (eqM.out W _ _ _ _ rfl rfl rfl) (xrefl W)
      try simp only [Act.put, List.setIfInBounds_toArray, List.set_cons_succ, List.set_cons_zero, List.nil_append, List.cons_append]
      apply wpGrowV_fix (.bool true) rfl rfl
      · intro W hb hF
        go_simp
        first | exact xrefl W | exact ⟨rfl, xrefl W⟩ | exact ⟨by omega, xrefl W⟩
      try simp only [Act.put, List.setIfInBounds_toArray, List.set_cons_succ, List.set_cons_zero, List.nil_append, List.cons_append]
      apply wpGrowV_fix (.bool true) rfl rfl
      · intro W hb hF
        go_simp
        first | exact xrefl W | exact ⟨rfl, xrefl W⟩ | exact ⟨by omega, xrefl W⟩
      try simp only [Act.put, List.setIfInBounds_toArray, List.set_cons_succ, List.set_cons_zero, List.nil_append, List.cons_append]
      apply wpGrowV_fix (.agg la.toArray) rfl rfl
      · intro W hb hF
        rw [exec_load_blkG 29 _ rfl p rfl 29 la _ (hX7.out.below hb) Tryz.underlying29 rfl (by rw [hla]; kernel_rfl)]
        exact ⟨rfl, xrefl W⟩
      try simp only [Act.put, List.setIfInBounds_toArray, List.set_cons_succ, List.set_cons_zero, List.nil_append, List.cons_append]
      apply wpGrowV_fix (.agg wn.toArray) rfl rfl
      · intro W hb hF
        go_simp
        go_at_call 24
        refine (hwd.out W).mono ?_
        rintro e w' ⟨rfl, hb'⟩
        exact ⟨rfl, hb'⟩
      try simp only [Act.put, List.setIfInBounds_toArray, List.set_cons_succ, List.set_cons_zero, List.nil_append, List.cons_append]
      apply wpGrowV_fix (.agg la.toArray) rfl rfl
      · intro W hb hF
        go_simp
        go_at_call 26
        refine (hofn.out W).mono ?_
        rintro e w' ⟨rfl, hb'⟩
        exact ⟨rfl, hb'⟩
      try simp only [Act.put, List.setIfInBounds_toArray, List.set_cons_succ, List.set_cons_zero, List.nil_append, List.cons_append]
      apply wpGrowV_fix (.agg la.toArray) rfl rfl
      · intro W hb hF
        rw [exec_load_blkG 29 _ rfl p rfl 29 la _ (hX7.out.below hb) Tryz.underlying29 rfl (by rw [hla]; kernel_rfl)]
        exact ⟨rfl, xrefl W⟩
      try simp only [Act.put, List.setIfInBounds_toArray, List.set_cons_succ, List.set_cons_zero, List.nil_append, List.cons_append]
      apply wpGrowV_fix (.bool true) rfl rfl
      · intro W hb hF
        exact grows_okP (eqL.out W _ _ _ _ rfl rfl rfl) (xrefl W)
      try simp only [Act.put, List.setIfInBounds_toArray, List.set_cons_succ, List.set_cons_zero, List.nil_append, List.cons_append]
      apply wpGrowV_fix (.bool true) rfl rfl
      · intro W hb hF
        go_simp
        first | exact xrefl W | exact ⟨rfl, xrefl W⟩ | exact ⟨by omega, xrefl W⟩
      try simp only [Act.put, List.setIfInBounds_toArray, List.set_cons_succ, List.set_cons_zero, List.nil_append, List.cons_append]
      apply wpGrowV_fix (.bool true) rfl rfl
      · intro W hb hF
        go_simp
        first | exact xrefl W | exact ⟨rfl, xrefl W⟩ | exact ⟨by omega, xrefl W⟩
      try simp only [Act.put, List.setIfInBounds_toArray, List.set_cons_succ, List.set_cons_zero, List.nil_append, List.cons_append]
      apply wpGrowV_fix (.agg la.toArray) rfl rfl
      · intro W hb hF
        rw [exec_load_blkG 29 _ rfl p rfl 29 la _ (hX7.out.below hb) Tryz.underlying29 rfl (by rw [hla]; kernel_rfl)]
        exact ⟨rfl, xrefl W⟩
      try simp only [Act.put, List.setIfInBounds_toArray, List.set_cons_succ, List.set_cons_zero, List.nil_append, List.cons_append]
      apply wpGrowV_fix (.agg wn.toArray) rfl rfl
      · intro W hb hF
        go_simp
        go_at_call 24
        refine (hwd.out W).mono ?_
        rintro e w' ⟨rfl, hb'⟩
        exact ⟨rfl, hb'⟩
      try simp only [Act.put, List.setIfInBounds_toArray, List.set_cons_succ, List.set_cons_zero, List.nil_append, List.cons_append]
      apply wpGrowV_fix (.agg lb.toArray) rfl rfl
      · intro W hb hF
        rw [exec_load_blkG 29 _ rfl q rfl 29 lb _ (hY7.out.below hb) Tryz.underlying29 rfl (by rw [hlb]; kernel_rfl)]
        exact ⟨rfl, xrefl W⟩
      try simp only [Act.put, List.setIfInBounds_toArray, List.set_cons_succ, List.set_cons_zero, List.nil_append, List.cons_append]
      apply wpGrowV_fix (.agg wb.toArray) rfl rfl
      · intro W hb hF
        go_simp
        go_at_call 24
        refine (hwdb.out W).mono ?_
        rintro e w' ⟨rfl, hb'⟩
        exact ⟨rfl, hb'⟩
      try simp only [Act.put, List.setIfInBounds_toArray, List.set_cons_succ, List.set_cons_zero, List.nil_append, List.cons_append]
      apply wpGrowV_fix (.int .i64 oab) rfl rfl
      · intro W hb hF
        go_simp
        go_at_call 28
        refine (hwo.out W).mono ?_
        rintro e w' ⟨rfl, hb'⟩
        exact ⟨rfl, hb'⟩
      try simp only [Act.put, List.setIfInBounds_toArray, List.set_cons_succ, List.set_cons_zero, List.nil_append, List.cons_append]
      apply wpGrowV_fix (.agg la.toArray) rfl rfl
      · intro W hb hF
        rw [exec_load_blkG 29 _ rfl p rfl 29 la _ (hX7.out.below hb) Tryz.underlying29 rfl (by rw [hla]; kernel_rfl)]
        exact ⟨rfl, xrefl W⟩
      try simp only [Act.put, List.setIfInBounds_toArray, List.set_cons_succ, List.set_cons_zero, List.nil_append, List.cons_append]
      apply wpGrowV_fix (.agg lb.toArray) rfl rfl
      · intro W hb hF
        rw [exec_load_blkG 29 _ rfl q rfl 29 lb _ (hY7.out.below hb) Tryz.underlying29 rfl (by rw [hlb]; kernel_rfl)]
        exact ⟨rfl, xrefl W⟩
      try simp only [Act.put, List.setIfInBounds_toArray, List.set_cons_succ, List.set_cons_zero, List.nil_append, List.cons_append]
      apply wpGrowV_fix (.int .i64 oab) rfl rfl
      · intro W hb hF
        go_simp
        go_at_call 22
        refine (hror.out W).mono ?_
        rintro e w' ⟨rfl, hb'⟩
        exact ⟨rfl, hb'⟩
      try simp only [Act.put, List.setIfInBounds_toArray, List.set_cons_succ, List.set_cons_zero, List.nil_append, List.cons_append]
      apply wpGrowV_fix (.bool true) rfl rfl
      · intro W hb hF
        go_simp
        first | exact xrefl W | exact ⟨rfl, xrefl W⟩ | exact ⟨by omega, xrefl W⟩
      try simp only [Act.put, List.setIfInBounds_toArray, List.set_cons_succ, List.set_cons_zero, List.nil_append, List.cons_append]
      apply wpGrowV_fix (.bool true) rfl rfl
      · intro W hb hF
        go_simp
        first | exact xrefl W | exact ⟨rfl, xrefl W⟩ | exact ⟨by omega, xrefl W⟩
      try simp only [Act.put, List.setIfInBounds_toArray, List.set_cons_succ, List.set_cons_zero, List.nil_append, List.cons_append]
      apply wpGrowV_fix (.bool true) rfl rfl
      · intro W hb hF
        go_simp
        first | exact xrefl W | exact ⟨rfl, xrefl W⟩ | exact ⟨by omega, xrefl W⟩
      try simp only [Act.put, List.setIfInBounds_toArray, List.set_cons_succ, List.set_cons_zero, List.nil_append, List.cons_append]
      apply wpGrowV_fix (.bool true) rfl rfl
      · intro W hb hF
        go_simp
        go_at_call 10
        refine (hwk.out W hb).mono ?_
        rintro e w' ⟨rfl, hb'⟩
        exact ⟨rfl, hb'⟩
      try simp only [Act.put, List.setIfInBounds_toArray, List.set_cons_succ, List.set_cons_zero, List.nil_append, List.cons_append]
      apply wpGrowV_fix (.bool true) rfl rfl
      · intro W hb hF
        go_simp
        first | exact xrefl W | exact ⟨rfl, xrefl W⟩ | exact ⟨by omega, xrefl W⟩
      try simp only [Act.put, List.setIfInBounds_toArray, List.set_cons_succ, List.set_cons_zero, List.nil_append, List.cons_append]
      refine wpGrowV_nil fun w9 hb9 _ => ?_
      replace hb9 := Lib.hid (xtrans hS1.out.hb hb9)
      go_wp2
      go_ret
      exact ⟨rfl, hb9.out⟩
  · have h60I : (60 : Int) < x.length := by omega
    have hwk := Lib.hid (hwk0.out wr hS1.out.hb)
    go_wp2_with (go_at_call 10; refine hwk.out.mono ?_; rintro e w2 ⟨rfl, hb2⟩; replace hb2 := Lib.hid (xtrans hS1.out.hb hb2))
    go_ret
    exact ⟨rfl, hb2.out⟩
end Go.Proofs.YthpallkphamobaaGreatDoor
