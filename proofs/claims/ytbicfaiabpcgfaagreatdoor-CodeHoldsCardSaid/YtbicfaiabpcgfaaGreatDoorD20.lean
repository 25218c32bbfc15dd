/- Texts of this claim, merged; no condition. -/
import Derived.Test.YtbicfaiabpcgfaaGreatDoorD06
import Derived.Test.YtbicfaiabpcgfaaGreatDoorD19
import Derived.Test.YtbicfaiabpcgfaaGreatDoorD09
import Derived.Test.YtbicfaiabpcgfaaGreatDoorD08
import Derived.Test.YtbicfaiabpcgfaaGreatDoorD02
set_option linter.all false
namespace Go.Proofs.YtbicfaiabpcgfaaGreatDoor
open Go.RowKit Go.Shelf
attribute [local go_sem] Oper.semAt_some

/-- After some rounds: the words so far; the table's box, the table, the code's box. -/
def TxS (B r mb tb pb : Nat) (K : List Nat) (cv : Value) (ys : List (List UInt8)) (S : Nat → Prop) (W : World) : Prop :=
  BoxR B 9 1 71 r ys.length (ys.map sV) S W ∧ (S mb ∧ S tb ∧ S pb) ∧ Box W mb (.map (some tb)) 66 ∧ TabAt' W tb K ∧ Box W pb cv 32
section
variable {B r mb tb pb : Nat} {K : List Nat} {cv : Value} {ys : List (List UInt8)} {S : Nat → Prop}
theorem txS_fac : Fac S (TxS B r mb tb pb K cv ys S) :=
  ⟨fun W W' ⟨h1, h2, h3, h4, h5⟩ hz hs => ⟨boxR_fac.on W W' h1 hz hs, h2, (hs _ h2.1 h3.lt).trans h3, (hs _ h2.2.1 (Array.getElem?_eq_some_iff.1 h4).1).trans h4, (hs _ h2.2.2 h5.lt).trans h5⟩, fun W ⟨h1, _⟩ => boxR_fac.lt W h1⟩
theorem boxR_wide {B : Nat} {ET : TypeId} {sz : Nat} {ST : TypeId} {r n : Nat} {xs : List Value} {S S' : Nat → Prop} {W : World} (h : BoxR B ET sz ST r n xs S W) (h1 : ∀ j, S j → S' j) (h2 : ∀ j, S' j → j < W.heap.size) : BoxR B ET sz ST r n xs S' W := by
  obtain ⟨v, a1, a2, a3, a4, -⟩ := h
  exact ⟨v, a1, a2, h1 _ a3, fun g hg => h1 _ (a4 g hg), h2⟩
theorem box_two {W : World} {b : Nat} {u v : Value} {T T' : TypeId} (h : Box W b u T) (h' : Box W b v T') (ne : T ≠ T') : False := by
  unfold Box at h h'
  rw [h] at h'
  injection h' with h'
  injection h' with h1 h2
  exact ne h2
theorem own_blkS {w : World} {B e s n : Nat} {v : Value} {xs : List Value} (h : w.ownsRow B e s v n xs) {g : Nat} (hg : v.ownBlock = some g) : ∃ vs, BlkG w g e vs := by
  rcases h.2 with ⟨rfl, -⟩ | ⟨g1, c1, cur1, rfl, _, h1, _⟩
  · cases hg
  · have e1 : g1 = g := Option.some.inj hg
    subst e1
    exact ⟨cur1.toList, by unfold BlkG; simpa using h1⟩
theorem txS_next {v V5 : Value} {W2 W3 W5 : World} {y : List UInt8} (h : TxS B r mb tb pb K cv ys S W2) (h1 : Box W2 r v 71) (h2 : W2.ownsRow B 9 1 v ys.length (ys.map sV)) (h3 : S r) (h4 : ∀ g, v.ownBlock = some g → S g)
    (hb : Below W2.heap.size W2 W3) (hg5 : W3.grownBy W5 v.ownBlock) (o5 : W5.ownsRow B 9 1 V5 (ys.length + 1) (ys.map sV ++ [sV y])) (hvb : V5.ownBlock = v.ownBlock ∨ ∀ k, V5.ownBlock = some k → W3.heap.size ≤ k) :
    Only S W2 (W5.setCell ⟨r, 0, none⟩ V5) ∧ ∃ S', (∀ j, S' j → S j ∨ W2.heap.size ≤ j) ∧ TxS B r mb tb pb K cv (ys ++ [y]) S' (W5.setCell ⟨r, 0, none⟩ V5) := by
  obtain ⟨-, ⟨sm, st, sp⟩, hm, ht, hp⟩ := h
  obtain ⟨ho, S1, hS1, hB⟩ := boxR_next (S := S) (by decide) h1 h2 h3 h4 hb hg5 o5 hvb
  obtain ⟨ho2, -⟩ := boxR_next (S := fun j => j = r ∨ v.ownBlock = some j) (by decide) h1 h2 (.inl rfl) (fun g hg => .inr hg) hb hg5 o5 hvb
  have k1 : ¬ (mb = r ∨ v.ownBlock = some mb) := by
    rintro (rfl | e)
    · exact box_two hm h1 (by decide)
    · exact own_ne h2 hm (by decide) e
  have k2 : ¬ (pb = r ∨ v.ownBlock = some pb) := by
    rintro (rfl | e)
    · exact box_two hp h1 (by decide)
    · exact own_ne h2 hp (by decide) e
  have k3 : ¬ (tb = r ∨ v.ownBlock = some tb) := by
    unfold TabAt' mapI at ht
    rintro (rfl | e)
    · unfold Box at h1; rw [h1] at ht; injection ht with ht; cases ht
    · obtain ⟨vs, hbk⟩ := own_blkS h2 e
      unfold BlkG at hbk
      rw [hbk] at ht; injection ht with ht; cases ht
  have hm' := hm.only ho2 k1
  have hp' := hp.only ho2 k2
  have ht' : TabAt' (W5.setCell ⟨r, 0, none⟩ V5) tb K := (ho2.same tb (Array.getElem?_eq_some_iff.1 ht).1 k3).trans ht
  refine ⟨ho, fun j => S1 j ∨ j = mb ∨ j = tb ∨ j = pb, ?_, ?_, ⟨.inr (.inl rfl), .inr (.inr (.inl rfl)), .inr (.inr (.inr rfl))⟩, hm', ht', hp'⟩
  · rintro j (hj | rfl | rfl | rfl)
    · exact hS1 j hj
    · exact .inl sm
    · exact .inl st
    · exact .inl sp
  · rw [List.length_append, List.map_append]
    refine boxR_wide hB (fun j h => .inl h) ?_
    rintro j (hj | rfl | rfl | rfl)
    · exact boxR_fac.lt _ hB j hj
    · exact hm'.lt
    · exact (Array.getElem?_eq_some_iff.1 ht').1
    · exact hp'.lt
end
theorem only_more {S S' : Nat → Prop} {W2 W7 W9 : World} (h1 : Only S W2 W7) (h2 : Only S' W7 W9) (hs : ∀ j, S' j → S j ∨ W2.heap.size ≤ j) : Only S W2 W9 :=
  ⟨h2.os.trans h1.os, h2.tape.trans h1.tape, h2.output.trans h1.output, Nat.le_trans h1.size h2.size, fun k hk hn => (h2.same k (Nat.lt_of_lt_of_le hk h1.size) fun h => by
    rcases hs k h with h | h
    · exact hn h
    · omega).trans (h1.same k hk hn)⟩
theorem zero_info (w : World) : (zeroValue 25).run Tryz.prog w = .ok (infoV noInfo) w := by kernel_rfl
theorem tabL_find {c : Nat} : ∀ K : List Nat, findI (c : Int) (tabL K) = if c ∈ K then some (infoV (infoN c)) else none
  | [] => by simp [tabL, findI]
  | d :: K => by
    show findI (c : Int) (((d : Int), infoV (infoN d)) :: tabL K) = _
    rw [findI]
    by_cases e : c = d
    · subst e; simp
    · rw [if_neg (by dsimp only; omega), tabL_find K]
      simp [e]
theorem look_tab {W : World} {tb : Nat} {K : List Nat} (h : TabAt' W tb K) (hK : TabG K) (c : Nat) (hc : c < 256) : (Instr.lookup 66 (.map (some tb)) (.int .u8 c) true).run Tryz.prog W = .ok (.tuple #[infoV (if namedN c then infoN c else noInfo), .bool (namedN c)]) W := by
  have := run_lookI (P := Tryz.prog) Tryz.underlying66 Tryz.underlying5 zero_info (c : Int) W tb (tabL K) true h
  rw [this, tabL_find]
  cases hn : namedN c with
  | true =>
    have hm : c ∈ K := (hK.2 c).2 ⟨hc, hn⟩
    rw [if_pos hm]; rfl
  | false =>
    have hm : c ∉ K := fun hm => by have := ((hK.2 c).1 hm).2; rw [hn] at this; cases this
    rw [if_neg hm]; rfl
/-- A new slice that holds one text. -/
def oneS (x : List UInt8) : Told := ⟨fun v => ∃ b : Nat, v = .slice (some ⟨b, 0, none⟩) 1 1, fun v W => ∀ b : Nat, v = .slice (some ⟨b, 0, none⟩) 1 1 → W.cell? ⟨b, 0, none⟩ = some (.string ⟨x.toArray⟩), ⟨_, 0, rfl⟩, fun v W W' h hb b e => (World.cell?_of_block (hb.block b (cell_lt (h b e)))).trans (h b e)⟩
theorem wpListIn_store_box {F : Fence} {N : Nat} {P : Program} {ops : Array Oper} {rest : List Oper} {o : Oper} {a : Act} {w : World} {Q : Exit → Act → World → Prop} (hgd : o.guard = none) (ty : TypeId) (x y : Operand) (ho : o.op = .store ty x y)
    (b : Nat) (hx : a.eval x = .pointer (some ⟨b, 0, none⟩)) (u v : Value) (T : TypeId) (hB : Box w b u T) (hy : a.eval y = v) (hi : (P.info? ty).map (·.size) = some 1) (h1 : v.oneCell' = true)
    (h : ∀ w', w' = w.setCell ⟨b, 0, none⟩ v → wpListIn F N P ops Q rest (a.put o.dst undef) w') : wpListIn F N P ops Q (o :: rest) a w := by
  refine wpListIn_plain hgd fun K hK' => ?_
  unfold Oper.wpIn
  refine ⟨by simp [Oper.about, ho], ?_⟩
  rw [Oper.semAt_plain F _ _ (by rw [ho]; intro c hc; cases hc)]
  unfold execOp
  simp only [ho, hx, hy, Instr.storeAt, Instr.sureAddr, Sem.run_bind, Sem.run_pure, Result.andThen_ok, run_storeVar_at w b 0 ty v (by rw [hB.cell]; rfl) hB.free hi h1, Oper.uponIn]
  exact hK' _ _ (h _ rfl)
theorem own_strS {w : World} {base : Nat} {a : Option Addr} {n c : Nat} {ws : List (List UInt8)} (h : w.ownsRow base 9 1 (.slice a n c) ws.length (ws.map sV)) (h0 : ws ≠ []) :
    n = ws.length ∧ ws.length ≤ c ∧ ∃ b : Nat, a = some ⟨b, 0, none⟩ ∧ b < w.heap.size ∧ ∀ (j : Nat) x, (ws.map fun l => (⟨l.toArray⟩ : ByteArray))[j]? = some x → w.cell? ⟨b, 0 + j, none⟩ = some (.string x) := by
  rcases h.2 with ⟨-, e⟩ | ⟨g, cap, cur, e, hb, hg, r⟩
  · cases ws with
    | nil => exact absurd rfl h0
    | cons x xs => simp at e
  · cases e
    refine ⟨rfl, by have := r.2.1; omega, g, rfl, (Array.getElem?_eq_some_iff.1 hg).1, fun j x hj => ?_⟩
    rw [List.getElem?_map] at hj
    obtain ⟨l, hl, rfl⟩ := Option.map_eq_some_iff.1 hj
    have := h.cells (g := g) rfl j (sV l) (by rw [List.getElem?_map, hl]; rfl)
    rwa [show (⟨g, 0, none⟩ : Addr).add j = ⟨g, 0 + j, none⟩ by cases j <;> simp [Addr.add]] at this
/-- A new slice of a row of bytes. -/
def behT (R : List Nat) : Told := ⟨fun v => ∃ b n : Nat, v = .slice (some ⟨b, 0, none⟩) R.length n, fun v W => ∀ b n : Nat, v = .slice (some ⟨b, 0, none⟩) R.length n → RowAt .u8 W (some ⟨b, 0, none⟩) (natI R),
  ⟨_, 0, 0, rfl⟩, fun v W W' h hb b n e => (h b n e).below hb⟩
theorem opW_three (cs : List Nat) (x : Nat) : (namedN (byN cs x) = false → opW cs x = [hexN [byN cs x]]) ∧ (namedN (byN cs x) = true → ¬ 0 < szN (byN cs x) → opW cs x = [(infoN (byN cs x)).name]) ∧
    (namedN (byN cs x) = true → 0 < szN (byN cs x) → opW cs x = [(infoN (byN cs x)).name] ++ [hexN (restN cs x)]) := by
  unfold opW
  refine ⟨fun h => by rw [if_neg (by rw [h]; decide)], fun h h2 => by rw [if_pos h, if_neg h2], fun h h2 => by rw [if_pos h, if_pos h2]; rfl⟩
def ysK (cs : List Nat) (k : Nat) : List (List UInt8) := ((opsL cs).take k).flatMap (opW cs)
theorem ysK_step {cs : List Nat} {k : Nat} (h : k < (opsL cs).length) : ysK cs (k + 1) = ysK cs k ++ opW cs (opsL cs)[k] := by
  unfold ysK
  rw [List.take_succ_eq_append_getElem h, List.flatMap_append, List.flatMap_singleton]
theorem ysK_all (cs : List Nat) : ysK cs (opsL cs).length = wordsN cs := by unfold ysK wordsN; rw [List.take_length]
theorem ysK_len (cs : List Nat) (k : Nat) : (ysK cs k).length ≤ 2 * cs.length := by
  have h3 : ((opsL cs).take k).length ≤ cs.length := by rw [List.length_take]; have := opsL_len cs; omega
  unfold ysK
  have : ∀ l : List Nat, (l.flatMap (opW cs)).length ≤ 2 * l.length := by
    intro l
    induction l with
    | nil => simp
    | cons a l ih => rw [List.flatMap_cons, List.length_append, List.length_cons]; have := (opW_len cs a).1; omega
  have := this ((opsL cs).take k)
  omega
set_option maxRecDepth 100000 in
set_option maxHeartbeats 8000000 in
theorem text_any (cs : List Nat) (a : Option Addr) (c : Nat) (w : World) (h : CodeAt w a c cs) :
    Calls Tryz.prog 15 #[.slice a cs.length c] w fun e w' => e = .returned (.string ⟨(textC cs).toArray⟩) ∧ Below w.heap.size w w' := by
  obtain ⟨i0, hi0, hz0, hz1, hz2⟩ := info_parts info_str
  have hlen := h.len
  have hol := opsL_len cs
  have htab := Lib.hid fun W => table_any W
  have hops := Lib.hid fun W => ops_any a cs.length c W
  refine (callsIn_wide (n := 0)).1 ?_
  refine callsIn_of_wp_marks Tryz.func15 rfl trivial ?_ rfl
  simp only [Tryz.ntmps15, List.size_toArray, List.length_cons, List.length_nil, Nat.reduceAdd, Nat.reduceSub, Array.replicate_succ, Array.replicate_zero, List.push_toArray, List.append_toArray, List.nil_append, List.cons_append]
  refine wpIn_wide.2 ?_
  have hP0 : Hid (Box ((w.alloc (.cells #[.slice a cs.length c] 32)).alloc (.cells #[.slice none 0 0] 71)) w.heap.size (.slice a cs.length c) 32) := Lib.hid ((Box.new w _ _).below (xalloc (xrefl _) _))
  have hR0 : Hid (Box ((w.alloc (.cells #[.slice a cs.length c] 32)).alloc (.cells #[.slice none 0 0] 71)) (w.heap.size + 1) (.slice none 0 0) 71) := Lib.hid (by
    have := Box.new (w.alloc (.cells #[.slice a cs.length c] 32)) (.slice none 0 0) 71
    rwa [World.size_alloc] at this)
  have h00 : Hid (Below w.heap.size w ((w.alloc (.cells #[.slice a cs.length c] 32)).alloc (.cells #[.slice none 0 0] 71))) := Lib.hid (xalloc (xalloc (xrefl w) _) _)
  have s0 : Hid (((w.alloc (.cells #[.slice a cs.length c] 32)).alloc (.cells #[.slice none 0 0] 71)).heap.size = w.heap.size + 2) := Lib.hid (by simp)
  go_wp2_with (first
    | (go_at_call 31; refine (htab.out _).mono ?_; rintro e w2 ⟨⟨K, rfl, hT, hK⟩, hb2⟩; replace hT := Lib.hid hT; replace hK := Lib.hid hK; have hP2 := Lib.hid (hP0.out.below hb2); have hR2 := Lib.hid (hR0.out.below hb2); have s2 : w.heap.size + 2 < w2.heap.size := (by have h1 := (Array.getElem?_eq_some_iff.1 hT.out).1; have h2 := s0.out; omega); replace hb2 := Lib.hid (xtrans h00.out hb2))
    | (refine wpList_store_at rfl 66 _ _ rfl w2.heap.size 0 rfl 66 [.map none] (.map (some (w.heap.size + 1 + 1))) (BlkG.new w2 _ _) (by decide) rfl (by kernel_rfl) rfl ?_; intro w3 hX3 ho3; replace hX3 : Hid (Box w3 w2.heap.size (.map (some (w.heap.size + 1 + 1))) 66) := Lib.hid hX3; have hb3 : Hid (Below w2.heap.size w2 w3) := Lib.hid (ho3.below (xalloc (xrefl _) _) (by rw [World.size_alloc]; omega) (by rintro k rfl; exact Nat.le_refl _)); have hP3 := Lib.hid (hP2.out.below hb3.out); have hR3 := Lib.hid (hR2.out.below hb3.out); have hc3 := hP3.out.cell; have hT3 : Hid (TabAt' w3 (w.heap.size + 1 + 1) K) := Lib.hid (by have h9 := hT.out; rw [s0.out] at h9; exact (hb3.out.block _ (by omega)).trans h9); clear ho3)
    | (go_at_call 14; refine (hops.out _).mono ?_; rintro e w' ⟨rfl, rfl⟩))
  refine (wpIn_wide (n := 0)).1 ?_
  have hx1 : Box (w3.alloc (.cells #[.slice a cs.length c] 32)) w3.heap.size (.slice a cs.length c) 32 := Box.new _ _ _
  have hb1 : Below w.heap.size w (w3.alloc (.cells #[.slice a cs.length c] 32)) := xalloc (xtrans hb2.out hb3.out) _
  have s3 := hb3.out.size
  have hS1 : TxS w.heap.size (w.heap.size + 1) w2.heap.size (w.heap.size + 1 + 1) w.heap.size K (.slice a cs.length c) (ysK cs 0) (fun j => j = w.heap.size + 1 ∨ j = w2.heap.size ∨ j = w.heap.size + 1 + 1 ∨ j = w.heap.size) (w3.alloc (.cells #[.slice a cs.length c] 32)) := by
    have hbx := xalloc (xrefl w3) (.cells #[.slice a cs.length c] 32)
    refine ⟨⟨.slice none 0 0, hR3.out.below hbx, ⟨rfl, .inl ⟨rfl, rfl⟩⟩, .inl rfl, (by rintro g hg; cases hg), ?_⟩, ⟨.inr (.inl rfl), .inr (.inr (.inl rfl)), .inr (.inr (.inr rfl))⟩, hX3.out.below hbx, (hbx.block _ (by omega)).trans hT3.out, hP3.out.below hbx⟩
    have := hX3.out.lt
    rintro j (rfl | rfl | rfl | rfl) <;> (rw [World.size_alloc]; omega)
  have hs1 : (w3.alloc (.cells #[.slice a cs.length c] 32)).heap.size = w3.heap.size + 1 := by simp
  have hX3l := hX3.out.lt
  generalize w3.alloc (.cells #[.slice a cs.length c] 32) = w1 at *
  clear hX3 hP3 hR3 hT3 hT hb2 hb3 hc3 hP0 hR0 h00 s0 hP2 hR2
  have hold := fun k (h0 : cs ≠ [] ∧ ∃ y, a = some y ∧ y.block = k) => codeRd_old (w' := w) (bx := 0) h h0.2 h0.1
  refine wp_rangeL (w0 := w) (gf := 33) (lb := #[.pointer (some ⟨w3.heap.size, 0, none⟩)]) rfl (enters_of Tryz.func33 (by kernel_rfl) rfl) (encs := encOp cs) (Rd := codeRd w3.heap.size a cs) (opsL cs)
    (fun k hk => by
      rcases hk with rfl | hk
      · omega
      · have := hold k hk; have := hb1.size; omega) hb1 (fun W hW => ops_seq cs _ a c W (hx1.below hW) ((h.below hb1).below hW)) (fun x => rfl) (fun k => TxS w.heap.size (w.heap.size + 1) w2.heap.size (w.heap.size + 1 + 1) w.heap.size K (.slice a cs.length c) (ysK cs k)) (fun _ _ _ _ => False) (fun k S => txS_fac) (fun _ _ _ => ⟨fun _ _ h _ _ => h, fun _ h => h.elim⟩) (fun j => j = w.heap.size + 1 ∨ j = w2.heap.size ∨ j = w.heap.size + 1 + 1 ∨ j = w.heap.size)
    (fun j hj => ⟨by rcases hj with rfl | rfl | rfl | rfl <;> omega, fun hr => by
      rcases hr with rfl | hr
      · rcases hj with h | h | h | h <;> omega
      · have := hold j hr; rcases hj with h | h | h | h <;> omega⟩) hS1 ?round ?done ?stop
  case round =>
    intro l0 k hk W
    unfold encOp
    dsimp only
    have hst := ysK_step hk
    have hkl := opsL_lt (List.getElem_mem hk)
    have hyl := ysK_len cs k
    generalize (opsL cs)[k] = x at *
    generalize ysK cs k = ys at *
    gi_wp2
    refine ⟨trivial, fun S W2 hb2 hzz _ hSo hS => ?_⟩
    have hsz2 := hb2.size
    have hlt2 := txS_fac.lt W2 hS
    obtain ⟨⟨v, h1, h2, h3, h4, h5⟩, ⟨sm, st, sp⟩, hm, ht, hp⟩ := id hS
    have h256 := byN_lt h.ok x
    have hlk := look_tab ht hK.out (byN cs x) h256
    have hcm := hm.cell
    have hrs := h1.lt
    have hne := Lib.hid (own_ne h2 h1 (by decide))
    have hnw : Hid (v.ownBlock ≠ some W2.heap.size) := Lib.hid fun e => by have := (own_lt h2 e).2; omega
    obtain ⟨a4, c4, rfl⟩ := own_slice h2
    obtain ⟨op1, op2, op3⟩ := opW_three cs x
    cases hnm : namedN (byN cs x) with
    | false =>
      rw [op1 hnm] at hst
      rw [hnm] at hlk
      replace hlk : (Instr.lookup 66 (.map (some (w.heap.size + 1 + 1))) (.int .u8 (byN cs x : Int)) true).run Tryz.prog W2 = .ok (.tuple #[.agg #[.string ⟨#[]⟩, .int .i64 0, .int .i64 0, .int .u64 0, .bool false, .int .i64 0], .bool false]) W2 := hlk
      clear op1 op2 op3
      replace hst := Lib.hid hst
      gi_wp2
      have hb5 : Hid (Below W2.heap.size W2 (W2.alloc (.cells #[.string ⟨#[]⟩, .int .i64 0, .int .i64 0, .int .u64 0, .bool false, .int .i64 0] 25))) := Lib.hid (xalloc (xrefl _) _)
      generalize (W2.alloc (.cells #[.string ⟨#[]⟩, .int .i64 0, .int .i64 0, .int .u64 0, .bool false, .int .i64 0] 25)) = w5 at hb5 ⊢
      have hcv5 := cbel hb5.out h1.cell
      refine wpIn_region_growL 5 [fixd (.slice a4 ys.length c4), fixd (.int .u8 (byN cs x : Int)), rowT .u8 [(byN cs x : Int)], fixd (.string ⟨(hexN [byN cs x]).toArray⟩), oneS (hexN [byN cs x])] (by kernel_rfl) (by kernel_rfl) (by kernel_rfl) ?_
      simp only [List.take_succ_cons, List.take_zero, List.drop_succ_cons, List.drop_zero]
      try simp only [Act.put, List.setIfInBounds_toArray, List.set_cons_succ, List.set_cons_zero, List.nil_append, List.cons_append]
      refine wpGrowV_fix _ rfl rfl (fun W hb _ => by have c := cbel hb hcv5; go_simp; first | exact xrefl W | exact ⟨rfl, xrefl W⟩) ?_
      try simp only [Act.put, List.setIfInBounds_toArray, List.set_cons_succ, List.set_cons_zero, List.nil_append, List.cons_append]
      refine wpGrowV_fix _ rfl rfl (fun W hb _ => by go_simp; first | exact xrefl W | exact ⟨rfl, xrefl W⟩) ?_
      try simp only [Act.put, List.setIfInBounds_toArray, List.set_cons_succ, List.set_cons_zero, List.nil_append, List.cons_append]
      refine wpGrowV_any (rowT .u8 [(byN cs x : Int)]) rfl rfl (fun W hb _ => ?_) (fun v hv => ?_)
      · go_simp
        exact ⟨⟨⟨_, rfl⟩, fun b e => by cases e; exact rowAt_one W 5 (byN cs x : Int)⟩, xalloc (xrefl W) _⟩
      obtain ⟨q0, rfl⟩ := hv
      try simp only [Act.put, List.setIfInBounds_toArray, List.set_cons_succ, List.set_cons_zero, List.nil_append, List.cons_append]
      refine wpGrowV_fix (.string ⟨(hexN [byN cs x]).toArray⟩) rfl rfl (fun W hb hF => ?_) ?_
      · have hr := hF 2 (by kernel_rfl) (by simp) q0 rfl
        clear hF
        go_simp
        go_at_call 35
        refine (hexP_any [byN cs x] _ _ W hr (fun y hy => by simp at hy; subst hy; exact h256) (by simp)).mono ?_
        rintro e w' ⟨rfl, hb'⟩
        exact ⟨rfl, hb'⟩
      try simp only [Act.put, List.setIfInBounds_toArray, List.set_cons_succ, List.set_cons_zero, List.nil_append, List.cons_append]
      refine wpGrowV_any (oneS (hexN [byN cs x])) rfl rfl (fun W hb _ => ?_) (fun v hv => ?_)
      · go_simp
        exact ⟨⟨⟨_, rfl⟩, fun b e => by cases e; exact (Box.new W _ 9).cell⟩, xalloc (xrefl W) _⟩
      obtain ⟨q1, rfl⟩ := hv
      try simp only [Act.put, List.setIfInBounds_toArray, List.set_cons_succ, List.set_cons_zero, List.nil_append, List.cons_append]
      refine wpGrowV_nil fun W9 hbW hmem => ?_
      have hq1 : W9.cell? ⟨q1, 0, none⟩ = some (.string ⟨(hexN [byN cs x]).toArray⟩) := hmem 4 (by decide) q1 rfl
      clear hmem
      have hq1' := Lib.hid hq1
      clear hq1
      have hbT := Lib.hid (xtrans hb5.out hbW)
      have o9 := Lib.hid (own_keep (own_keep h2 hb5.out) hbW)
      have c9 := Lib.hid ((h1.below hb5.out).below hbW)
      have hne9 := Lib.hid (own_ne o9.out c9.out (by decide))
      have hbs9 := (by have := hb5.out.size; have := hbW.size; have := hb2.size; omega : w.heap.size ≤ W9.heap.size)
      have hmid := Lib.hid fun V10 W10 hg10 o10 hvb10 => txS_next (y := hexN [byN cs x]) hS h1 h2 h3 h4 hbT.out (W5 := W10) (V5 := V10) hg10 o10 hvb10
      gi_wp2_with (first
        | (gi_at_builtin; refine wpListIn_append_blkV W9 rfl _ _ 71 rfl w.heap.size 9 i0 (.string ⟨#[]⟩) 1 16 Tryz.underlying71 hi0 hz0 hz1 hz2 rfl (by decide) _ ys.length _ rfl o9.out ⟨q1, 0, none⟩ 1 1 [sV (hexN [byN cs x])] rfl rfl (by intro j u hj; match j, hj with | 0, hj => (injection hj with hj; subst hj; exact hq1'.out)) (by simp [sV, Value.oneCell']) (by unfold maxLen; omega) (by omega) hbs9 ?_; intro V10 W10 o10 hg10 hvb10; have hst10 := Lib.hid (hmid.out V10 W10 hg10 o10 hvb10); have c10 := Lib.hid (c9.out.only (only_grown hg10) hne9.out); obtain ⟨a10, e10, rfl⟩ := own_slice o10; clear hg10 hvb10)
        | (refine wpListIn_store_box rfl 71 _ _ rfl (w.heap.size + 1) rfl _ (.slice a10 (ys.length + 1) e10) 71 c10.out rfl (by kernel_rfl) rfl ?_; intro W11 hW11; rw [← hW11] at hst10; clear hW11))
      obtain ⟨hoF, S9, hS9, hT9⟩ := hst10.out
      exact ⟨hoF, S9, hS9, by show TxS _ _ _ _ _ _ _ _ _ _; rw [hst.out]; exact hT9⟩
    | true =>
      rw [hnm] at hlk
      have hsz := info_size (byN cs x) h256
      rw [← hsz] at op2 op3
      clear hsz op1
      generalize infoN (byN cs x) = X at *
      obtain ⟨nm, iN, oN, gN, qN, zN⟩ := X
      replace hlk : (Instr.lookup 66 (.map (some (w.heap.size + 1 + 1))) (.int .u8 (byN cs x : Int)) true).run Tryz.prog W2 = .ok (.tuple #[.agg #[.string ⟨nm.toArray⟩, .int .i64 iN, .int .i64 oN, .int .u64 gN, .bool qN, .int .i64 zN], .bool true]) W2 := hlk
      simp only at op2 op3
      have hB5 : BlkG (W2.alloc (.cells #[.string ⟨nm.toArray⟩, .int .i64 iN, .int .i64 oN, .int .u64 gN, .bool qN, .int .i64 zN] 25)) W2.heap.size 25 (infL ⟨nm, iN, oN, gN, qN, zN⟩) := BlkG.new W2 _ _
      have hbx5 : Below W2.heap.size W2 (W2.alloc (.cells #[.string ⟨nm.toArray⟩, .int .i64 iN, .int .i64 oN, .int .u64 gN, .bool qN, .int .i64 zN] 25)) := xalloc (xrefl _) _
      have hcv5 := cbel hbx5 h1.cell
      have hb6 : Below W2.heap.size W2 ((W2.alloc (.cells #[.string ⟨nm.toArray⟩, .int .i64 iN, .int .i64 oN, .int .u64 gN, .bool qN, .int .i64 zN] 25)).alloc (.cells #[.string ⟨nm.toArray⟩] 9)) := xalloc hbx5 _
      have hw6 : w.heap.size ≤ ((W2.alloc (.cells #[.string ⟨nm.toArray⟩, .int .i64 iN, .int .i64 oN, .int .u64 gN, .bool qN, .int .i64 zN] 25)).alloc (.cells #[.string ⟨nm.toArray⟩] 9)).heap.size := Nat.le_trans hsz2 hb6.size
      have h2a := Lib.hid (own_keep h2 hb6)
      have h1a := Lib.hid (h1.below hb6)
      have hX6 := Lib.hid (hB5.below (xalloc (xrefl (W2.alloc (.cells #[.string ⟨nm.toArray⟩, .int .i64 iN, .int .i64 oN, .int .u64 gN, .bool qN, .int .i64 zN] 25))) (.cells #[.string ⟨nm.toArray⟩] 9)))
      have hq0 : Hid (((W2.alloc (.cells #[.string ⟨nm.toArray⟩, .int .i64 iN, .int .i64 oN, .int .u64 gN, .bool qN, .int .i64 zN] 25)).alloc (.cells #[.string ⟨nm.toArray⟩] 9)).cell? ⟨W2.heap.size + 1, 0, none⟩ = some (sV nm)) := Lib.hid (by
        have := (Box.new (W2.alloc (.cells #[.string ⟨nm.toArray⟩, .int .i64 iN, .int .i64 oN, .int .u64 gN, .bool qN, .int .i64 zN] 25)) (sV nm) 9).cell
        rwa [World.size_alloc] at this)
      have hmid := Lib.hid fun V5 Wn hg5 o5 hvb => txS_next (y := nm) hS h1 h2 h3 h4 hb6 (W5 := Wn) (V5 := V5) hg5 o5 hvb
      have hrn : ¬ W2.heap.size = w.heap.size + 1 := by omega
      replace hb6 := Lib.hid hb6
      clear hB5 hbx5
      by_cases hz : 0 < zN
      · have hzI : (0 : Int) < (zN : Int) := by omega
        rw [op3 hnm hz, ← List.append_assoc] at hst
        replace hst := Lib.hid hst
        clear op2 op3
        gi_wp2_with (first
          | (gi_at_builtin; refine wpListIn_append_blkV ((W2.alloc (.cells #[.string ⟨nm.toArray⟩, .int .i64 iN, .int .i64 oN, .int .u64 gN, .bool qN, .int .i64 zN] 25)).alloc (.cells #[.string ⟨nm.toArray⟩] 9)) rfl _ _ 71 rfl w.heap.size 9 i0 (.string ⟨#[]⟩) 1 16 Tryz.underlying71 hi0 hz0 hz1 hz2 rfl (by decide) (.slice a4 ys.length c4) ys.length _ rfl h2a.out ⟨W2.heap.size + 1, 0, none⟩ 1 1 [sV nm] rfl rfl (by intro j u hj; match j, hj with | 0, hj => (injection hj with hj; subst hj; exact hq0.out)) (by simp [sV, Value.oneCell']) (by unfold maxLen; omega) (by omega) hw6 ?_; intro V5 Wn o5 hg5 hvb; have hst5 := Lib.hid (hmid.out V5 Wn hg5 o5 hvb); have c5 := Lib.hid (h1a.out.only (only_grown hg5) hne.out); have hX7 := Lib.hid (hX6.out.only (only_grown hg5) hnw.out); obtain ⟨a5, e5, rfl⟩ := own_slice o5; clear hg5 hvb)
          | (refine wpListIn_store_box rfl 71 _ _ rfl (w.heap.size + 1) rfl _ (.slice a5 (ys.length + 1) e5) 71 c5.out rfl (by kernel_rfl) rfl ?_; intro W7 hW7; rw [← hW7] at hst5; have hX8 : Hid (BlkG W7 W2.heap.size 25 (infL ⟨nm, iN, oN, gN, qN, zN⟩)) := Lib.hid (by rw [hW7]; exact hX7.out.only ((Only.refl (· = w.heap.size + 1) _).setCell _ _ rfl) hrn); have hz8 := hX8.out.cell 5 (by show 5 < 6; omega); simp only [infL, List.getElem_cons_zero, List.getElem_cons_succ] at hz8; clear hW7 o5 c5 hX7))
        obtain ⟨ho7, S7, hS7, hT7⟩ := hst5.out
        obtain ⟨ys1, hys1⟩ : ∃ ys1, ys1 = ys ++ [nm] := ⟨_, rfl⟩
        rw [← hys1] at hT7 hst
        have hl1 : ys1.length = ys.length + 1 := by rw [hys1]; simp
        obtain ⟨⟨v7, k1, k2, k3, k4, k5⟩, ⟨sm7, st7, sp7⟩, km, kt, kp⟩ := id hT7
        obtain ⟨a7, c7, rfl⟩ := own_slice k2
        have hbW7 := ho7.below hb2 hb2.size (fun j hj => (hSo j hj).1)
        have hbeh := Lib.hid fun W (hb : Below W7.heap.size W7 W) => behind_any cs x a c W (h.below (xtrans hbW7 hb)) hkl
        have hrl : (restN cs x).length ≤ 1000 := by have := szN_le (byN cs x); simp [restN]; omega
        have hrok : ∀ y ∈ restN cs x, y < 256 := fun y hy => by
          unfold restN at hy
          obtain ⟨j, _, rfl⟩ := List.mem_map.1 hy
          exact byN_lt h.ok _
        have hcv7 := k1.cell
        have hcp7 := kp.cell
        have hw7 := hbW7.size
        clear hz8 hX8 hmid hq0 hX6 h1a h2a
        refine wpIn_region_growL 6 [fixd (.slice a7 ys1.length c7), fixd (.slice a cs.length c), fixd (.int .i64 (x : Int)), behT (restN cs x), fixd (.string ⟨(hexN (restN cs x)).toArray⟩), oneS (hexN (restN cs x))] (by kernel_rfl) (by kernel_rfl) (by kernel_rfl) ?_
        simp only [List.take_succ_cons, List.take_zero, List.drop_succ_cons, List.drop_zero]
        try simp only [Act.put, List.setIfInBounds_toArray, List.set_cons_succ, List.set_cons_zero, List.nil_append, List.cons_append]
        refine wpGrowV_fix _ rfl rfl (fun W hb _ => by have c := cbel hb hcv7; go_simp; first | exact xrefl W | exact ⟨rfl, xrefl W⟩) ?_
        try simp only [Act.put, List.setIfInBounds_toArray, List.set_cons_succ, List.set_cons_zero, List.nil_append, List.cons_append]
        refine wpGrowV_fix _ rfl rfl (fun W hb _ => by have c := cbel hb hcp7; go_simp; first | exact xrefl W | exact ⟨rfl, xrefl W⟩) ?_
        try simp only [Act.put, List.setIfInBounds_toArray, List.set_cons_succ, List.set_cons_zero, List.nil_append, List.cons_append]
        refine wpGrowV_fix _ rfl rfl (fun W hb _ => by go_simp; first | exact xrefl W | exact ⟨rfl, xrefl W⟩) ?_
        try simp only [Act.put, List.setIfInBounds_toArray, List.set_cons_succ, List.set_cons_zero, List.nil_append, List.cons_append]
        refine wpGrowV_any (behT (restN cs x)) rfl rfl (fun W hb hF => ?_) (fun v hv => ?_)
        · clear hF
          go_simp
          go_at_call 36
          refine (hbeh.out W hb).mono ?_
          rintro e w' ⟨⟨b, n, rfl, hr, -⟩, hb'⟩
          exact ⟨_, rfl, ⟨⟨b, n, rfl⟩, fun b' n' e => by cases e; exact hr⟩, hb'⟩
        obtain ⟨q0, n0, rfl⟩ := hv
        try simp only [Act.put, List.setIfInBounds_toArray, List.set_cons_succ, List.set_cons_zero, List.nil_append, List.cons_append]
        refine wpGrowV_fix (.string ⟨(hexN (restN cs x)).toArray⟩) rfl rfl (fun W hb hF => ?_) ?_
        · have hr := hF 3 (by kernel_rfl) (by simp) q0 n0 rfl
          clear hF
          go_simp
          go_at_call 35
          refine (hexP_any (restN cs x) _ _ W hr hrok hrl).mono ?_
          rintro e w' ⟨rfl, hb'⟩
          exact ⟨rfl, hb'⟩
        try simp only [Act.put, List.setIfInBounds_toArray, List.set_cons_succ, List.set_cons_zero, List.nil_append, List.cons_append]
        refine wpGrowV_any (oneS (hexN (restN cs x))) rfl rfl (fun W hb _ => ?_) (fun v hv => ?_)
        · go_simp
          exact ⟨⟨⟨_, rfl⟩, fun b e => by cases e; exact (Box.new W _ 9).cell⟩, xalloc (xrefl W) _⟩
        obtain ⟨q1, rfl⟩ := hv
        try simp only [Act.put, List.setIfInBounds_toArray, List.set_cons_succ, List.set_cons_zero, List.nil_append, List.cons_append]
        refine wpGrowV_nil fun W9 hbW hmem => ?_
        have hq1 : W9.cell? ⟨q1, 0, none⟩ = some (.string ⟨(hexN (restN cs x)).toArray⟩) := hmem 5 (by decide) q1 rfl
        clear hmem
        have hq1' := Lib.hid hq1
        clear hq1
        have o9 := Lib.hid (own_keep k2 hbW)
        have c9 := Lib.hid (k1.below hbW)
        have hne9 := Lib.hid (own_ne o9.out c9.out (by decide))
        have hbs9 : w.heap.size ≤ W9.heap.size := Nat.le_trans hw7 hbW.size
        have hmid := Lib.hid fun V10 W10 hg10 o10 hvb10 => txS_next (y := hexN (restN cs x)) hT7 k1 k2 k3 k4 hbW (W5 := W10) (V5 := V10) hg10 o10 hvb10
        gi_wp2_with (first
          | (gi_at_builtin; refine wpListIn_append_blkV W9 rfl _ _ 71 rfl w.heap.size 9 i0 (.string ⟨#[]⟩) 1 16 Tryz.underlying71 hi0 hz0 hz1 hz2 rfl (by decide) _ ys1.length _ rfl o9.out ⟨q1, 0, none⟩ 1 1 [sV (hexN (restN cs x))] rfl rfl (by intro j u hj; match j, hj with | 0, hj => (injection hj with hj; subst hj; exact hq1'.out)) (by simp [sV, Value.oneCell']) (by unfold maxLen; omega) (by omega) hbs9 ?_; intro V10 W10 o10 hg10 hvb10; have hst10 := Lib.hid (hmid.out V10 W10 hg10 o10 hvb10); have c10 := Lib.hid (c9.out.only (only_grown hg10) hne9.out); obtain ⟨a10, e10, rfl⟩ := own_slice o10; clear hg10 hvb10)
          | (refine wpListIn_store_box rfl 71 _ _ rfl (w.heap.size + 1) rfl _ (.slice a10 (ys1.length + 1) e10) 71 c10.out rfl (by kernel_rfl) rfl ?_; intro W11 hW11; rw [← hW11] at hst10; clear hW11))
        obtain ⟨ho11, S11, hS11, hT11⟩ := hst10.out
        refine ⟨only_more ho7 ho11 hS7, S11, fun j hj => ?_, by show TxS _ _ _ _ _ _ _ _ _ _; rw [hst.out]; exact hT11⟩
        rcases hS11 j hj with h9 | h9
        · exact hS7 j h9
        · exact .inr (Nat.le_trans ho7.size h9)
      · have hzI : ¬ (0 : Int) < (zN : Int) := by omega
        rw [op2 hnm hz] at hst
        replace hst := Lib.hid hst
        clear op2 op3
        gi_wp2_with (first
          | (gi_at_builtin; refine wpListIn_append_blkV ((W2.alloc (.cells #[.string ⟨nm.toArray⟩, .int .i64 iN, .int .i64 oN, .int .u64 gN, .bool qN, .int .i64 zN] 25)).alloc (.cells #[.string ⟨nm.toArray⟩] 9)) rfl _ _ 71 rfl w.heap.size 9 i0 (.string ⟨#[]⟩) 1 16 Tryz.underlying71 hi0 hz0 hz1 hz2 rfl (by decide) (.slice a4 ys.length c4) ys.length _ rfl h2a.out ⟨W2.heap.size + 1, 0, none⟩ 1 1 [sV nm] rfl rfl (by intro j u hj; match j, hj with | 0, hj => (injection hj with hj; subst hj; exact hq0.out)) (by simp [sV, Value.oneCell']) (by unfold maxLen; omega) (by omega) hw6 ?_; intro V5 Wn o5 hg5 hvb; have hst5 := Lib.hid (hmid.out V5 Wn hg5 o5 hvb); have c5 := Lib.hid (h1a.out.only (only_grown hg5) hne.out); have hX7 := Lib.hid (hX6.out.only (only_grown hg5) hnw.out); obtain ⟨a5, e5, rfl⟩ := own_slice o5; clear hg5 hvb)
          | (refine wpListIn_store_box rfl 71 _ _ rfl (w.heap.size + 1) rfl _ (.slice a5 (ys.length + 1) e5) 71 c5.out rfl (by kernel_rfl) rfl ?_; intro W7 hW7; rw [← hW7] at hst5; have hX8 : Hid (BlkG W7 W2.heap.size 25 (infL ⟨nm, iN, oN, gN, qN, zN⟩)) := Lib.hid (by rw [hW7]; exact hX7.out.only ((Only.refl (· = w.heap.size + 1) _).setCell _ _ rfl) hrn); have hz8 := hX8.out.cell 5 (by show 5 < 6; omega); simp only [infL, List.getElem_cons_zero, List.getElem_cons_succ] at hz8; clear hW7 o5 c5 hX7))
        obtain ⟨ho7, S7, hS7, hT7⟩ := hst5.out
        exact ⟨ho7, S7, hS7, by show TxS _ _ _ _ _ _ _ _ _ _; rw [hst.out]; exact hT7⟩
  case done =>
    intro D S W hD hSD hb _ _ hS hK
    rw [ysK_all] at hS
    obtain ⟨⟨v, h1, h2, h3, h4, h5⟩, -⟩ := hS
    have hwl : (wordsN cs).length ≤ 2 * cs.length := by rw [← ysK_all]; exact ysK_len cs _
    have htl := txK_len h.ok h.len (opsL cs).length
    rw [txK_all] at htl
    obtain ⟨a9, c9, rfl⟩ := own_slice h2
    have hcv := h1.cell
    have hKl := (Array.getElem?_eq_some_iff.1 hK).1
    have hws := hb1.size
    replace hb := Lib.hid hb
    replace hK := Lib.hid hK
    have hjn : Hid (Calls Tryz.prog 37 #[.slice a9 (wordsN cs).length c9, .string ⟨#[32]⟩] W fun e w' => e = .returned (.string ⟨(textC cs).toArray⟩) ∧ Below W.heap.size W w') := Lib.hid (by
      by_cases h0 : wordsN cs = []
      · have ht : textC cs = [] := by unfold textC; rw [h0]; rfl
        rw [h0, ht]
        refine (Tryz.strings_Join_none a9 c9 ⟨#[32]⟩ W).mono ?_
        rintro e w' ⟨rfl, rfl⟩
        exact ⟨rfl, xrefl _⟩
      · obtain ⟨-, hc9, b9, rfl, hb9, hcells⟩ := own_strS h2 h0
        have hm : ((wordsN cs).map fun l => (⟨l.toArray⟩ : ByteArray)).map (·.data.toList) = wordsN cs := by rw [List.map_map]; exact (List.map_congr_left fun l _ => rfl).trans (List.map_id _)
        have := Tryz.strings_Join b9 0 c9 ((wordsN cs).map fun l => (⟨l.toArray⟩ : ByteArray)) ⟨#[32]⟩ W hcells hb9 (by rw [List.length_map]; omega) (by rw [List.length_map]; exact hc9)
        rw [List.length_map, hm] at this
        exact this (by show (textC cs).length ≤ _; omega))
    generalize wordsN cs = ws at *
    clear h1 h2 h3 h4 h5
    go_wp2_with (go_at_call 37; refine hjn.out.mono ?_; rintro e w7 ⟨rfl, hb7⟩)
    have hK7 := (hb7.block D hKl).trans hK.out
    have hb' := xtrans hb.out hb7
    have hput := (Only.refl (· = D) w7).putObj D (.deferred none) rfl
    refine ⟨by simp [Act.put], .inl ⟨_, _, rfl, run_takeDeferred hK7, ?_⟩⟩
    exact ⟨_, results_tmp rfl _ _ _, rfl, hput.below hb' hb'.size (by rintro i rfl; omega)⟩
  case stop =>
    intro D k c S W _ _ _ _ _ _ h
    exact h.elim
end Go.Proofs.YtbicfaiabpcgfaaGreatDoor
