/- Texts of this claim, merged; no condition. -/
import Derived.Test.YthpallkphamobaaGreatDoorJ14
import Derived.Test.YthpallkphamobaaGreatDoorJ15
import Derived.Test.YthpallkphamobaaGreatDoorJ16
import Derived.Test.YthpallkphamobaaGreatDoorJ17
set_option linter.all false
namespace Go.Proofs.YthpallkphamobaaGreatDoor
open Go.RowKit Go.Shelf

/-- The library's tables that are read. -/
structure TabP (W : World) : Prop where
  tab : Tab W
  max : ∃ m, W.cell? ⟨0, 0, none⟩ = some (.int .i64 m)
  lt : 8 ≤ W.heap.size
  pow : ∀ W' : World, W'.heap[4]? = W.heap[4]? → Lib.TabIs Tryz.prog W' "internal/strconv.uint64pow10" .u64 Lib.pow10Tab
  syn : ∃ te pe, W.cell? ⟨5, 0, none⟩ = some (.iface te pe)
  rng : ∃ te pe, W.cell? ⟨6, 0, none⟩ = some (.iface te pe)
theorem TabP.of {W W' : World} (h : TabP W) (hb : ∀ k, k < 8 → W'.heap[k]? = W.heap[k]?) (hs : W.heap.size ≤ W'.heap.size) : TabP W' :=
  ⟨fun j hj => (World.cell?_of_block (hb gtab (by decide))).trans (h.tab j hj), by obtain ⟨m, hm⟩ := h.max; exact ⟨m, (World.cell?_of_block (a := ⟨0, 0, none⟩) (hb 0 (by omega))).trans hm⟩, Nat.le_trans h.lt hs,
    fun W2 e => h.pow W2 (e.trans (hb 4 (by omega))), by obtain ⟨a, b, hm⟩ := h.syn; exact ⟨a, b, (World.cell?_of_block (a := ⟨5, 0, none⟩) (hb 5 (by omega))).trans hm⟩, by obtain ⟨a, b, hm⟩ := h.rng; exact ⟨a, b, (World.cell?_of_block (a := ⟨6, 0, none⟩) (hb 6 (by omega))).trans hm⟩⟩
theorem TabP.only {O : Nat → Prop} {W W' : World} (h : TabP W) (ho : Only O W W') (hO : ∀ k, O k → 8 ≤ k) : TabP W' :=
  h.of (fun k hk => ho.same k (Nat.lt_of_lt_of_le hk h.lt) fun e => by have := hO k e; omega) ho.size
theorem TabP.below {W W' : World} (h : TabP W) (hb : Below W.heap.size W W') : TabP W' := h.only (Below.only hb : Only (fun _ => False) W W') (fun _ h => h.elim)
theorem TabP.belowG {W W' : World} {g : Nat} (h : TabP W) (hb : Below g W W') (hg : 8 ≤ g) : TabP W' := h.of (fun k hk => hb.block k (by omega)) hb.size
theorem TabP.pow10 {W : World} (h : TabP W) : Lib.TabIs Tryz.prog W "internal/strconv.uint64pow10" .u64 Lib.pow10Tab := h.pow W rfl
/-- A reader: its words, and its rules, which are its own. -/
structure RdS (W : World) (g : Nat) (p : PolN) (vc vr : Value) (ws : List (List UInt8)) : Prop where
  wd : WdAt W g p.dflt vc vr ws
  oc : W.ownsRow g 65 21 vc p.clears.length (p.clears.flatMap clearC)
  ow : W.ownsRow g 67 22 vr p.rels.length (p.rels.flatMap relC)
  ok : p.Ok
/-- A reader, at the end of a line. -/
structure RdE (W : World) (g : Nat) (p : PolN) (n : Nat) : Prop where
  out : ∃ a c vc vr, BlkG W g 115 (rdC (.slice a n c) p.dflt vc vr) ∧ W.ownsRow g 65 21 vc p.clears.length (p.clears.flatMap clearC) ∧ W.ownsRow g 67 22 vr p.rels.length (p.rels.flatMap relC)
  ok : p.Ok
theorem own_sliceV {w : World} {base : Nat} {e : TypeId} {size : Nat} {v : Value} {n : Nat} {xs : List Value} (h : w.ownsRow base e size v n xs) : ∃ a c, v = .slice a n c := by
  rcases h.2 with ⟨rfl, rfl⟩ | ⟨g, cap, cur, rfl, _⟩
  · exact ⟨_, _, rfl⟩
  · exact ⟨_, _, rfl⟩
theorem own_belowV {w w' : World} {base : Nat} {e : TypeId} {size : Nat} {v : Value} {n : Nat} {xs : List Value} (h : w.ownsRow base e size v n xs) (hb : Below w.heap.size w w') : w'.ownsRow base e size v n xs := own_same h fun g _ hl => hb.block g hl
theorem own_onlyG {w w' : World} {O : Nat → Prop} {base : Nat} {e : TypeId} {size : Nat} {v : Value} {n : Nat} {xs : List Value} (h : w.ownsRow base e size v n xs) (ho : Only O w w') (hO : ∀ k, v.ownBlock = some k → ¬ O k) : w'.ownsRow base e size v n xs := own_same h fun g hg hl => ho.same g hl (hO g hg)
theorem RdS.below {W W' : World} {g : Nat} {p : PolN} {vc vr : Value} {ws : List (List UInt8)} (h : RdS W g p vc vr ws) (hb : Below W.heap.size W W') : RdS W' g p vc vr ws := ⟨h.wd.below hb, own_belowV h.oc hb, own_belowV h.ow hb, h.ok⟩
theorem ct_ne : (65 : TypeId) ≠ 115 := by decide
theorem rt_ne : (67 : TypeId) ≠ 115 := by decide
theorem RdS.lt {W : World} {g : Nat} {p : PolN} {vc vr : Value} {ws : List (List UInt8)} (h : RdS W g p vc vr ws) : g < W.heap.size := by
  obtain ⟨a, c, h1, -⟩ := h.wd.out
  exact h1.lt
/-- A word has been taken. -/
theorem RdS.took {W W' : World} {g : Nat} {p : PolN} {vc vr : Value} {ws ws' : List (List UInt8)} (h : RdS W g p vc vr ws) (hw : WdAt W' g p.dflt vc vr ws') (ho : OnlyG g W W') : RdS W' g p vc vr ws' := by
  obtain ⟨a, c, h1, -⟩ := h.wd.out
  have n1 := own_neG h.oc h1 ct_ne
  have n2 := own_neG h.ow h1 rt_ne
  exact ⟨hw, own_onlyG h.oc ho.o fun k hk e => n1 (by rw [hk, e]), own_onlyG h.ow ho.o fun k hk e => n2 (by rw [hk, e]), h.ok⟩
theorem address_ok (x : List UInt8) (a : List Nat) (w : World) (hx : x.length ≤ 4194304) (h : addrF x = some a) : Calls Tryz.prog 18 #[.string ⟨x.toArray⟩] w fun e w' => e = .returned (.tuple #[adrV a, .int .i64 0]) ∧ Below w.heap.size w w' := (address_any x w hx).mono fun e w' h' => ⟨by rw [h'.1, h]; rfl, h'.2⟩
theorem address_no (x : List UInt8) (w : World) (hx : x.length ≤ 4194304) (h : addrF x = none) : Calls Tryz.prog 18 #[.string ⟨x.toArray⟩] w fun e w' => e = .returned (.tuple #[adrV zAdr, .int .i64 190]) ∧ Below w.heap.size w w' := (address_any x w hx).mono fun e w' h' => ⟨by rw [h'.1, h]; rfl, h'.2⟩
theorem label_ok (x : List UInt8) (a : BitVec 64) (w : World) (hx : x.length ≤ 65536) (hT : Tab w) (h : parseP x = some a) : Calls Tryz.prog 99 #[.string ⟨x.toArray⟩] w fun e w' => e = .returned (.tuple #[.int .u64 (iv64 a), .int .i64 0]) ∧ Below w.heap.size w w' := (parse_any ⟨x.toArray⟩ w (by show x.toArray.size ≤ _; simp; omega) hT).mono fun e w' h' => ⟨by rw [h'.1]; show Ending.returned (parV (parseP x)) = _; rw [h]; rfl, h'.2⟩
theorem label_no (x : List UInt8) (w : World) (hx : x.length ≤ 65536) (hT : Tab w) (h : parseP x = none) : Calls Tryz.prog 99 #[.string ⟨x.toArray⟩] w fun e w' => e = .returned (.tuple #[.int .u64 0, .int .i64 180]) ∧ Below w.heap.size w w' := (parse_any ⟨x.toArray⟩ w (by show x.toArray.size ≤ _; simp; omega) hT).mono fun e w' h' => ⟨by rw [h'.1]; show Ending.returned (parV (parseP x)) = _; rw [h]; rfl, h'.2⟩

/-! How memory goes on while a clearance is read: the reader's block, the clearances' own row. -/
def StyO (g : Nat) (E : TypeId) (sz : Nat) (vc : Value) (n : Nat) (xs ys : List Value) (W W' : World) : Prop :=
  Only (fun k => k = g ∨ vc.ownBlock = some k) W W' ∧ (W.ownsRow g E sz vc n xs → W'.ownsRow g E sz vc n xs) ∧ ∀ u, W.ownsRow g E sz u (n + 1) (xs ++ ys) → W'.ownsRow g E sz u (n + 1) (xs ++ ys)
section
variable {g : Nat} {E : TypeId} {sz : Nat} {vc : Value} {n : Nat} {xs ys : List Value} {W W' W2 : World}
theorem StyO.refl (W : World) : StyO g E sz vc n xs ys W W := ⟨Only.refl _ _, id, fun _ => id⟩
theorem StyO.trans (h : StyO g E sz vc n xs ys W W') (h2 : StyO g E sz vc n xs ys W' W2) : StyO g E sz vc n xs ys W W2 := ⟨h.1.trans h2.1, fun x => h2.2.1 (h.2.1 x), fun u x => h2.2.2 u (h.2.2 u x)⟩
theorem StyO.below (hb : Below W.heap.size W W') : StyO g E sz vc n xs ys W W' := ⟨Below.only hb, fun x => own_belowV x hb, fun u x => own_belowV x hb⟩
theorem StyO.took {T : TypeId} {vs : List Value} (h : BlkG W g T vs) (hE : E ≠ T) (ho : Only (· = g) W W') : StyO g E sz vc n xs ys W W' :=
  ⟨ho.mono fun k _ e => .inl e, fun x => own_onlyG x ho fun k hk e => own_neG x h hE (by rw [hk, e]), fun u x => own_onlyG x ho fun k hk e => own_neG x h hE (by rw [hk, e])⟩
theorem StyO.app (hg : W.grownBy W' vc.ownBlock) (h1 : W'.ownsRow g E sz vc n xs) (h2 : ∀ u, W.ownsRow g E sz u (n + 1) (xs ++ ys) → W'.ownsRow g E sz u (n + 1) (xs ++ ys)) : StyO g E sz vc n xs ys W W' :=
  ⟨(only_grown hg).mono fun k _ e => .inr e, fun _ => h1, h2⟩
end
def goesO (g : Nat) (E : TypeId) (sz : Nat) (vc : Value) (n : Nat) (xs ys : List Value) (Sg : Bool → World → Prop) (Qp : List PanicEntry → World → Prop) (k : Nat) (hk : ∀ b {W W'}, Sg b W → Below W.heap.size W W' → Sg b W') : Goes :=
  ⟨StyO g E sz vc n xs ys, Sg, Qp, k, StyO.refl, StyO.trans, StyO.below, hk⟩
/-- A new row of one. -/
def NewAt (g : Nat) (vc : Value) (ys : List Value) (T : TypeId) (v : Value) (W : World) : Prop := ∃ q, v = .slice (some ⟨q, 0, none⟩) 1 1 ∧ BlkG W q T ys ∧ q ≠ g ∧ vc.ownBlock ≠ some q
def newT (g : Nat) (E : TypeId) (sz : Nat) (vc : Value) (n : Nat) (xs ys : List Value) : ToldS (StyO g E sz vc n xs ys) :=
  ⟨fun v => ∃ q, v = .slice (some ⟨q, 0, none⟩) 1 1, fun v W => NewAt g vc ys E v W, ⟨_, 0, rfl⟩, fun v W W' ⟨q, h1, h2, h3, h4⟩ hs => ⟨q, h1, h2.only hs.1 (fun e => e.elim h3 h4), h3, h4⟩⟩
theorem newT_new {W : World} {g : Nat} {E : TypeId} {sz : Nat} {vc : Value} {n : Nat} {xs ys : List Value} (hg : g < W.heap.size) (ho : W.ownsRow g E sz vc n xs) : NewAt g vc ys E (.slice (some ⟨W.heap.size, 0, none⟩) 1 1) (W.alloc (.cells ys.toArray E)) :=
  ⟨_, rfl, BlkG.new W _ _, by omega, fun e => by have := (ownB_lt ho e).2; omega⟩
def ownO (g : Nat) (E : TypeId) (sz : Nat) (vc : Value) (n : Nat) (xs ys : List Value) : ToldS (StyO g E sz vc n xs ys) :=
  ⟨fun v => ∃ a c, v = .slice a (n + 1) c, fun v W => W.ownsRow g E sz v (n + 1) (xs ++ ys), ⟨.slice none (n + 1) 0, none, 0, rfl⟩, fun v _ _ h hs => hs.2.2 v h⟩
/-- A row of the call's own has grown: the words are as they were. -/
theorem WdAt.grown {W W' : World} {g : Nat} {x : BitVec 64} {vc vr v : Value} {ws : List (List UInt8)} {E : TypeId} {sz n : Nat} {xs : List Value} (h : WdAt W g x vc vr ws) (ho : W.ownsRow g E sz v n xs) (hE : E ≠ 115) (hE2 : E ≠ 9) (hg : W.grownBy W' v.ownBlock) : WdAt W' g x vc vr ws := by
  obtain ⟨a, c, h1, -⟩ := h.out
  exact h.only (only_grown hg) (own_neG ho h1 hE) fun k hk => hk.own ho hE2
theorem tookO {g : Nat} {E : TypeId} {sz : Nat} {v : Value} {n : Nat} {xs ys : List Value} {W W' : World} {x : BitVec 64} {vc vr : Value} {ws : List (List UInt8)} (h : WdAt W g x vc vr ws) (ho : OnlyG g W W') (hE : E ≠ 115 := by decide) : StyO g E sz v n xs ys W W' := by
  obtain ⟨a, c, h1, -⟩ := h.out
  exact StyO.took h1 hE ho.o
theorem blk_add {W : World} {q : Nat} {T : TypeId} {vs : List Value} (h : BlkG W q T vs) {j : Nat} {u : Value} (hj : vs[j]? = some u) : W.cell? ((⟨q, 0, none⟩ : Addr).add j) = some u := by
  rw [Addr.add_lit, Nat.zero_add]
  exact blk_cell h hj
/-- Rows of two kinds lie apart. -/
theorem own_two {W : World} {b1 b2 : Nat} {e1 e2 : TypeId} {s1 s2 : Nat} {v1 v2 : Value} {n1 n2 : Nat} {xs1 xs2 : List Value} (h1 : W.ownsRow b1 e1 s1 v1 n1 xs1) (h2 : W.ownsRow b2 e2 s2 v2 n2 xs2) (hT : e1 ≠ e2) (he : v1.ownBlock = v2.ownBlock) {k : Nat} (hk : v1.ownBlock = some k) : False := by
  rcases h1.2 with ⟨rfl, -⟩ | ⟨g, cap, cur, rfl, _, hg, _⟩
  · cases hk
  · rcases h2.2 with ⟨rfl, -⟩ | ⟨g2, cap2, cur2, rfl, _, hg2, _⟩
    · cases he
    · have e3 : g = g2 := Option.some.inj he
      subst e3
      rw [hg] at hg2
      injection hg2 with h
      injection h with h1 h2
      exact hT h2
/-! Operations of a region, run. -/
theorem exec_append {P : Program} {o : Oper} {ac : Act} {w w' : World} (t : TypeId) (s x : Operand) (ho : o.op = .call { callee := .builtin .append, args := #[s, x], argTypes := #[t, t] }) (v u : Value) (hs : ac.eval s = v) (hx : ac.eval x = u) {v' : Value} (hrun : (Builtin.append_ #[t, t] o.type #[v, u]).run P w = .ok v' w') :
    (execOp ac.eval o).run P w = .ok (.value v') w' := by
  simp [execOp, ho, resolve, invoke, builtin, hs, hx, hrun, Result.andThen]
theorem exec_build {P : Program} {o : Oper} {ac : Act} {w : World} (t : TypeId) (parts : Array (Nat × Operand)) (ho : o.op = .build t parts) (vals : List (Nat × Value)) (hv : parts.toList.map (fun p => (p.1, ac.eval p.2)) = vals) (cells : Array Value) (hb : P.built t vals = some cells) :
    (execOp ac.eval o).run P w = .ok (.value (.agg cells)) w := by
  have hr := run_build (P := P) w t (parts.map fun p => (p.1, ac.eval p.2)) cells (by rw [Array.toList_map, hv]; exact hb)
  unfold execOp
  simp only [ho, hr, Sem.run_bind, Sem.run_pure, Result.andThen_ok]
theorem exec_bsl {P : Program} {o : Oper} {ac : Act} {w w' : World} (t : TypeId) (x : Operand) (ho : o.op = .buildSlice t 1 #[(0, x)]) (u : Value) (hx : ac.eval x = u) {v' : Value} (hrun : (Instr.buildSlice t 1 #[(0, u)]).run P w = .ok v' w') :
    (execOp ac.eval o).run P w = .ok (.value v') w' := by
  unfold execOp
  simp [ho, hx, hrun, Sem.run_bind, Result.andThen]
theorem exec_load_blkG {P : Program} {o : Oper} {ac : Act} {w : World} (ty : TypeId) (x : Operand) (ho : o.op = .load ty x) (b : Nat) (hx : ac.eval x = .pointer (some ⟨b, 0, none⟩)) (T : TypeId) (vs : List Value) (d : TypeDesc) (hB : BlkG w b T vs) (hu : P.underlying ty = some d) (hd : (match d with | .struct _ | .array _ _ => true | _ => false) = true) (hi : (P.info? ty).map (·.size) = some vs.length) :
    (execOp ac.eval o).run P w = .ok (.value (.agg vs.toArray)) w := by
  unfold execOp
  simp only [ho, hx, Instr.loadAt, Instr.sureAddr, Sem.run_bind, Sem.run_pure, Result.andThen_ok, run_loadVar_row w b T ty _ (0, 0) d hB hu hd (by simpa using hi)]
theorem built_clear (a : List Nat) (t : BitVec 64) (h : a.length = 20) : Tryz.prog.built 65 [(0, adrV a), (1, labV t)] = some (clearC (a, t)).toArray := by
  obtain ⟨b0, b1, b2, b3, b4, b5, b6, b7, b8, b9, b10, b11, b12, b13, b14, b15, b16, b17, b18, b19, rfl⟩ := list20 a h
  clear h
  kernel_rfl
theorem bsl_clear (a : List Nat) (t : BitVec 64) (h : a.length = 20) (W : World) : (Instr.buildSlice 24 1 #[(0, .agg (clearC (a, t)).toArray)]).run Tryz.prog W = .ok (.slice (some ⟨W.heap.size, 0, none⟩) 1 1) (W.alloc (.cells (clearC (a, t)).toArray 65)) := by
  obtain ⟨b0, b1, b2, b3, b4, b5, b6, b7, b8, b9, b10, b11, b12, b13, b14, b15, b16, b17, b18, b19, rfl⟩ := list20 a h
  clear h
  kernel_rfl
theorem bsl_rel (a : List Nat) (e : Nat) (t : BitVec 64) (h : a.length = 20) (W : World) : (Instr.buildSlice 25 1 #[(0, .agg (relC (a, e, t)).toArray)]).run Tryz.prog W = .ok (.slice (some ⟨W.heap.size, 0, none⟩) 1 1) (W.alloc (.cells (relC (a, e, t)).toArray 67)) := by
  obtain ⟨b0, b1, b2, b3, b4, b5, b6, b7, b8, b9, b10, b11, b12, b13, b14, b15, b16, b17, b18, b19, rfl⟩ := list20 a h
  clear h
  kernel_rfl
end Go.Proofs.YthpallkphamobaaGreatDoor
