/- The program's digest (layer 24): which numbers a line takes. -/
import Derived.Test.YtfafancacfjodaaRipI
import Derived.Laws.Cover3
namespace Go.Proofs.Ytfafancacfjodaa
open Go.RowKit

/-- The first cells of a slice's own block. -/
def Row (q : IntKind) (w : World) (b : Nat) (T : TypeId) (l : List Int) : Prop := ∃ cur : Array Value, w.heap[b]? = some (.cells cur T (0, 0)) ∧ cur.toList.take l.length = l.map (Value.int q)
section
variable {q : IntKind} {w w' : World} {b : Nat} {T : TypeId} {l : List Int}
theorem Row.lt (h : Row q w b T l) : b < w.heap.size := by obtain ⟨cur, h1, -⟩ := h; exact (Array.getElem?_eq_some_iff.1 h1).1
theorem Row.only {O : Nat → Prop} (h : Row q w b T l) (ho : Only O w w') (hb : ¬ O b) : Row q w' b T l := by
  have := h.lt
  obtain ⟨cur, h1, h2⟩ := h
  exact ⟨cur, (ho.same b this hb).trans h1, h2⟩
theorem Row.below (h : Row q w b T l) (hb : Below w.heap.size w w') : Row q w' b T l := h.only (O := fun _ => False) (Below.only hb) (fun h => h)
theorem Row.oth (h : Row q w b T l) {c i : Nat} (u : Value) (hc : b ≠ c) : Row q (w.setCell ⟨c, i, none⟩ u) b T l :=
  h.only ((Only.refl (· = c) w).setCell ⟨c, i, none⟩ u rfl) hc
theorem Row.cell (h : Row q w b T l) (i : Nat) (hi : i < l.length) : w.cell? ⟨b, i, none⟩ = some (.int q l[i]) := by
  obtain ⟨cur, h1, h2⟩ := h
  rw [cell_of_row w b i _ T (0, 0) h1]
  have e := congrArg (·[i]?) h2
  simp only [List.getElem?_take_of_lt hi, List.getElem?_map, List.getElem?_eq_getElem hi, Option.map_some] at e
  rw [← Array.getElem?_toList]
  exact e
theorem Row.frozen (h : Row q w b T l) (i : Nat) : w.frozen? ⟨b, i, none⟩ = false := by obtain ⟨cur, h1, -⟩ := h; exact frozen_of_row w b i _ T h1
theorem Row.set (h : Row q w b T l) (i : Nat) (v : Int) : Row q (w.setCell ⟨b, i, none⟩ (.int q v)) b T (l.set i v) := by
  obtain ⟨cur, h1, h2⟩ := h
  refine ⟨cur.setIfInBounds i (.int q v), heap_setCell_same w b i _ T _ h1, ?_⟩
  rw [Array.toList_setIfInBounds, List.length_set, List.take_set, h2, List.map_set]
theorem Row.of_own {base n : Nat} {v : Value} (h : w.ownsRow base T 1 v n (l.map (Value.int q))) (hn : 0 < n) : ∃ g cap, v = .slice (some ⟨g, 0, none⟩) n cap ∧ base ≤ g ∧ n ≤ cap ∧ Row q w g T l := by
  have hl := h.1
  simp at hl
  rcases h.2 with ⟨-, h0⟩ | ⟨g, cap, cur, rfl, hb, hg, h1, _, _, h2⟩
  · omega
  · refine ⟨g, cap, rfl, hb, h1, cur, hg, ?_⟩
    rw [hl, ← h2, Nat.mul_one]
theorem run_load_row {P : Program} {o : Oper} {ac : Act} (ty : TypeId) (x : Operand) (ho : o.op = .load ty x) (hx : ac.eval x = .pointer (some ⟨b, 0, none⟩)) (n : Nat) (e : TypeId)
    (hB : Row q w b T l) (hu : P.underlying ty = some (.array n e)) (hi : (P.info? ty).map (·.size) = some l.length) : (execOp ac.eval o).run P w = .ok (.value (.agg (l.map (Value.int q)).toArray)) w := by
  unfold execOp
  have hc : w.rangeAt b 0 (l.map (Value.int q)) := fun j v hj => by
    rw [List.getElem?_map] at hj
    obtain ⟨y, hy, rfl⟩ := Option.map_eq_some_iff.1 hj
    obtain ⟨hlt, rfl⟩ := List.getElem?_eq_some_iff.1 hy
    rw [Nat.zero_add]
    exact hB.cell j hlt
  simp only [ho, hx, Instr.loadAt, Instr.sureAddr, Sem.run_bind, Sem.run_pure, Result.andThen_ok, run_loadVar_mid w b 0 ty _ _ hc hu rfl (by rw [List.length_map]; exact hi)]
theorem wpList_load_rowX {P : Program} {ops : Array Oper} {rest : List Oper} {o : Oper} {a : Act} {Q : Exit → Act → World → Prop} (hgd : o.guard = none) (ty : TypeId) (x : Operand) (ho : o.op = .load ty x) (b : Nat) (hx : a.eval x = .pointer (some ⟨b, 0, none⟩)) (q : IntKind) (T : TypeId) (l : List Int) (n : Nat) (e : TypeId)
    (hB : Row q w b T l) (hu : P.underlying ty = some (.array n e)) (hi : (P.info? ty).map (·.size) = some l.length) (h : wpList P ops Q rest (a.put o.dst (.agg (l.map (Value.int q)).toArray)) w) : wpList P ops Q (o :: rest) a w := by
  refine wpList_plain hgd fun K hK => ?_
  unfold Oper.wp
  rw [run_load_row ty x ho hx n e hB hu hi]
  exact hK _ _ h
end

theorem zero80 (W : World) : (zeroValue 31).run Try.prog W = .ok (.agg ((List.replicate 80 0).map (Value.int .i64)).toArray) W := by
  kernel_rfl
def takeI (second : Bool) (k : Nat) : Int := (takeN second k : Int)
set_option maxRecDepth 100000 in
set_option maxHeartbeats 1000000 in
theorem takes_any (second : Bool) (w : World) : Calls Try.prog 10 #[.bool second] w fun e w' => e = .returned (arrV .i64 (takeL second)) ∧ Below w.heap.size w w' := by
  unfold arrV
  have hzv := zero80
  have hzl : (List.replicate 80 (0 : Int)).length = 80 := List.length_replicate
  have hzf := fillL_zero 80 (takeI second)
  generalize List.replicate 80 (0 : Int) = Z at hzv hzl hzf
  have hz := Lib.hid (Blk.new (q := .i64) w 31 Z)
  have hfl : Hid (allL 80 (fun _ => (0 : Int)) = fillL 80 (takeI second) 0) := Lib.hid (allL_congr fun i hi => by simp)
  replace hzl := Lib.hid hzl
  replace hzf := Lib.hid hzf
  have hz16 := Lib.hid (fun W : World => Blk.new (q := .i64) W 49 (List.replicate 16 0))
  have hord := fun W => orders_any W
  unfold arrV at hord
  replace hord := Lib.hid hord
  have hmade := Lib.hid (fun W => madeInt_any 80 (fun _ => 0) W (by decide) (fun k _ W' _ => takes1_any k W'))
  have nord : ordL.length = 16 := rfl
  obtain ⟨OL, hOL⟩ : ∃ l, l = ordL := ⟨_, rfl⟩
  rw [← hOL] at hord nord
  have og : ∀ n (h : n < OL.length), OL[n] = (ordN n : Int) := fun n h => by subst hOL; exact ord_get n h
  replace nord := Lib.hid nord
  replace og := Lib.hid og
  clear hOL
  go_enter Try.func10, Try.ntmps10
  go_wp2_with (first
    | (go_at_call 23; refine (hord.out _).mono ?_; rintro e w1 ⟨rfl, hb1⟩)
    | (refine wpList_store_blk rfl 49 _ _ rfl w1.heap.size rfl .i64 49 (List.replicate 16 0) OL (hz16.out w1) rfl (by rw [nord.out, List.length_replicate]) (by rw [nord.out]; kernel_rfl) ?_; intro w2 hP ho2)
    | (go_at_call 24; refine (hmade.out _).mono ?_; rintro e w3 ⟨v3, rfl, hown, hb3⟩; obtain ⟨g, cap, rfl, hgb, hcap, hrow⟩ := Row.of_own hown (by decide)))
  have s1 := hb1.size
  rw [World.size_alloc] at s1
  have s2 := ho2.size
  rw [World.size_alloc] at s2
  have hb02 : Below w.heap.size w w2 := ho2.below (xalloc (xtrans (xalloc (xrefl w) _) hb1) _) (xalloc (xtrans (xalloc (xrefl w) _) hb1) _).size (by rintro i rfl; omega)
  have hb03 := xtrans hb02 hb3
  have hP3 := Lib.hid (hP.below hb3)
  have hZ3 := Lib.hid ((((hz.out.below hb1).alloc (Obj.cells ((List.replicate 16 0).map (Value.int .i64)).toArray 49)).only ho2 (by omega)).below hb3)
  rw [hfl.out] at hrow
  replace hrow := Lib.hid hrow
  have hne1 : g ≠ w1.heap.size := by omega
  have hne2 : g ≠ w.heap.size := by omega
  have hgw : w.heap.size ≤ g := by omega
  clear s1 s2 hb02 hb3 hown hP ho2 hb1 hgb hfl hmade hord hz16 hz
  generalize w1.heap.size = pb at *
  go_wp2
  go_loopw [10] (fun iv wx => ∃ i : Nat, i ≤ 80 ∧ iv = .int .i64 i ∧ Hid (Row .i64 wx g 3 (fillL 80 (takeI second) i)) ∧ Hid (Blk .i64 wx pb 49 OL) ∧ Hid (Blk .i64 wx w.heap.size 31 Z) ∧ Below w.heap.size w wx) (fun iv _ => 80 - (intOf iv).toNat)
  case atStart => exact ⟨0, by omega, rfl, hrow, hP3, hZ3, hb03⟩
  case round =>
    clear hrow hP3 hZ3 hb03
    obtain ⟨i, hi, rfl, hrow, hP, hZ, hb⟩ := hrel
    by_cases hlt : i < 80
    · have hlt2 : (i : Int) < 80 := by omega
      have co := hrow.out.cell i (by rw [fillL_len]; exact hlt)
      have fo := hrow.out.frozen i
      have hset := hrow.out.set i (takeI second i)
      rw [fillL_succ 80 (takeI second) i] at hset
      by_cases h16 : 16 ≤ i
      · obtain ⟨j, hj⟩ : ∃ j, j = i - 16 := ⟨_, rfl⟩
        have hjI : (i : Int) - 16 = (j : Int) := by omega
        have hj80 : (j : Int) < 80 := by omega
        have hv : takeI second i = (ordN (takeN second j) : Int) := by unfold takeI; rw [take_hi second i h16, hj]
        have c1 := hrow.out.cell j (by rw [fillL_len]; omega)
        rw [fillL_get _ _ _ _ (by omega)] at c1
        replace c1 : wr.cell? ⟨g, j, none⟩ = some (.int .i64 (takeN second j : Int)) := c1
        have ht16 : takeN second j < 16 := take_lt _ _
        have ht2 : (takeN second j : Int) < 16 := by omega
        have c2 := hP.out.cell (takeN second j) (by rw [nord.out]; exact ht16)
        rw [og.out] at c2
        rw [hv] at hset
        generalize takeN second j = tj at c1 c2 ht16 ht2 hset hv
        generalize ordN tj = ov at c2 hset hv
        replace hv := Lib.hid hv
        replace hj := Lib.hid hj
        replace hset := Lib.hid hset
        have h16I : (16 : Int) ≤ (i : Int) := by omega
        go_wp2
        exact ⟨⟨i + 1, by omega, rfl, hset, Lib.hid (hP.out.oth _ (fun e => hne1 e.symm)), Lib.hid (hZ.out.oth _ (fun e => hne2 e.symm)), xsetb hb hgw _⟩, by simp [intOf]; omega⟩
      · have h16I : ¬ (16 : Int) ≤ (i : Int) := by omega
        have hv : takeI second i = (startN second i : Int) := by unfold takeI; rw [take_lo second i (by omega)]
        rw [hv] at hset
        clear hv
        cases second
        · have hs : (startN false i : Int) = (i : Int) := by simp [startN]; omega
          rw [hs] at hset
          replace hset := Lib.hid hset
          clear hs
          go_wp2
          exact ⟨⟨i + 1, by omega, rfl, hset, Lib.hid (hP.out.oth _ (fun e => hne1 e.symm)), Lib.hid (hZ.out.oth _ (fun e => hne2 e.symm)), xsetb hb hgw _⟩, by simp [intOf]; omega⟩
        · have hs : (startN true i : Int) = (9 * (i : Int) + 5) % 16 := by simp [startN]; omega
          rw [hs] at hset
          replace hset := Lib.hid hset
          clear hs
          go_wp2
          exact ⟨⟨i + 1, by omega, rfl, hset, Lib.hid (hP.out.oth _ (fun e => hne1 e.symm)), Lib.hid (hZ.out.oth _ (fun e => hne2 e.symm)), xsetb hb hgw _⟩, by simp [intOf]; omega⟩
    · obtain rfl : i = 80 := by omega
      clear hlt
      have hrow' := hrow.out
      rw [fillL_all _ _ _ (by omega), show allL 80 (takeI second) = takeL second from rfl] at hrow'
      have hLl : (takeL second).length = 80 := allL_len _ _
      generalize hLF : takeL second = LF at hrow' hLl
      replace hLF := Lib.hid hLF
      have hinf : (Try.prog.info? 31 ).map (·.size) = some LF.length := by rw [hLl]; kernel_rfl
      have hrl : LF.length = Z.length := by rw [hLl, hzl.out]
      have hat : ∀ w, (Instr.arrayAt 31 (.slice (some ⟨g, 0, none⟩) 80 cap)).run Try.prog w = .ok (.pointer (some ⟨g, 0, none⟩)) w := fun w => run_arrayAt w 31 _ 80 _ 80 cap Try.underlying31 (by decide)
      replace hinf := Lib.hid hinf
      replace hrl := Lib.hid hrl
      replace hrow' := Lib.hid hrow'
      go_wp2_with (first
        | (refine wpList_load_rowX rfl 31 _ rfl g rfl .i64 3 LF _ _ hrow'.out Try.underlying31 hinf.out ?_)
        | (refine wpList_store_blk rfl 31 _ _ rfl w.heap.size rfl .i64 31 Z LF hZ.out rfl hrl.out hinf.out ?_; intro w7 h7 ho7))
      refine ret_blk rfl w.heap.size .i64 31 LF _ _ rfl h7 Try.underlying31 hinf.out rfl ⟨by rw [hLF.out], ?_⟩
      exact ho7.below hb hb.size (by rintro i rfl; omega)
end Go.Proofs.Ytfafancacfjodaa
