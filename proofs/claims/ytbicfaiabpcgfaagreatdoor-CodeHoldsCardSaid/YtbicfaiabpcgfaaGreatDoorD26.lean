/- Texts of this claim, merged; no condition. -/
import Derived.Test.YtbicfaiabpcgfaaGreatDoorRows
import Derived.Handed
import Derived.Shelf.Vars
import Derived.ProofKit
import Derived.Test.YtbicfaiabpcgfaaGreatDoorD00
import Derived.OpenShut
import Derived.ShutString
import Derived.ChangeOld
import Derived.Below
import Derived.Test.YtbicfaiabpcgfaaGreatDoorD25
import Derived.Test.YtbicfaiabpcgfaaGreatDoorD06
import Derived.Test.YtbicfaiabpcgfaaGreatDoorD13
import Derived.Test.YtbicfaiabpcgfaaGreatDoorD07
import Derived.Test.YtbicfaiabpcgfaaGreatDoorD20
set_option linter.all false
namespace Go.Proofs.YtbicfaiabpcgfaaGreatDoor
open Go.RowKit

theorem handed_and_shaped {H : Type} {enc : TypeId × Value → H} {a : Assume} {C : Checked} {os : Os} {f : FuncId} {fn : Func} {s : ChangeSpec} {conds : List PathCond} {apart fresh handsOn again : Bool} {X : World → Array Value → Prop}
    (hX : ∀ (w w' : World) (args : Array Value), w.heap = w'.heap → X w args → X w' args)
    (own : ownKnob C.prog.godebug = none) (started : os.Started) (noInit : C.prog.inits.idxOf? f = none) (hfn : C.prog.funcs[f]? = some fn)
    (witness : ∃ (w : World) (tape : Tape) (i : Input), w.os = os ∧ (w.forCall tape i).Shaped C.prog ∧ i.vars = [] ∧ Input.okWide C.prog (w.forCall tape i) .any w.heap.size f i ∧
      ((s.pre enc C.prog fn conds apart (w.forCall tape i).memory i.args ∧ X (w.forCall tape i).memory i.args) ∧ sizedMet enc C.prog fn (OpenSpec.ofChange s) apart (w.forCall tape i).memory i.args) ∧ a.holds C.prog (lone (Frame.enter C.prog f i.args .normal) [] (w.forCall tape i)))
    (walk : ∀ (W : World) (base : Nat) (args : Array Value) (ds gs : List (DataW H)) (before : List MemPlace),
      (∀ (j : Nat) t v, fn.params[j]? = some t → args[j]? = some v → Value.okWide C.prog W .any base t v) →
      DataW.Whole enc C.prog fn.params.toList s.vars apart W args.toList ds gs before →
      X W args → W.ShapedOpen C.prog →
      Calls C.prog f args W fun e W' => ∃ v, e = .returned v ∧ s.post enc C.prog fn apart fresh handsOn again W args v W') :
    ReturnsInHanded a C os f .any (fun w args => (s.pre enc C.prog fn conds apart w args ∧ X w args) ∧ sizedMet enc C.prog fn (OpenSpec.ofChange s) apart w args) (s.post enc C.prog fn apart fresh handsOn again) := by
  refine returnsInHanded_of_calls own started noInit witness fun w tape i _ hsh _ hok hpre _ => ?_
  obtain ⟨_, _, _, fn2, hfn2, _, _, _, _, hval⟩ := hok
  obtain rfl : fn2 = fn := Option.some.inj (hfn2.symm.trans hfn)
  obtain ⟨⟨⟨ds, gs, before, hw, -⟩, hx⟩, -⟩ := hpre
  refine (walk (w.forCall tape i) w.heap.size i.args ds gs before hval (DataW.Whole.of_heap (w' := w.forCall tape i) (by rfl) hw) (hX _ _ _ (by rfl) hx) hsh).mono fun e W' h => ?_
  obtain ⟨v, rfl, hp⟩ := h
  exact ChangeSpec.post_blind hp
/-- The cell of internal/bytealg.MaxLen. -/
def Tab (w : World) : Prop := ∃ m, w.cell? ⟨0, 0, none⟩ = some (.int .i64 m)
theorem Tab.below {w w' : World} (h : Tab w) (hb : Below w.heap.size w w') : Tab w' := by
  obtain ⟨m, hm⟩ := h
  exact ⟨m, cbel hb hm⟩
theorem tab_of_shaped {w : World} (h : w.ShapedOpen Tryz.prog) : Tab w :=
  cell_of_shapedOpen_int (t := 3) (zero := #[.int .i64 0]) h (of_decide_eq_true (by kernel_rfl)) (by kernel_rfl) rfl (by kernel_rfl) (by kernel_rfl) Tryz.underlying3
end Go.Proofs.YtbicfaiabpcgfaaGreatDoor
namespace Go.Proofs.YtbicfaiabpcgfaaGreatDoor
open Go.ChangeShapes Go.WideShapes Go.ChangeAt Go.RowKit
open Go.ChangeMaps (open_string shut_string)

/-- What became of the walk of a law: true, and nothing that was there has turned. -/
def Yes (w : World) (e : Ending) (w' : World) : Prop := e = .returned (.bool true) ∧ Below w.heap.size w w'

section
variable {H : Type} {enc : TypeId × Value → H} {P : Program} {w : World} {base : Nat} {spare : Nat → Bool} {held : Bool} {t e : TypeId} {fuel : Nat} {cs : List Value} {x : DataW H × List MemPlace}

/-- A slice of integers. -/
theorem trod_row {q : IntKind} {v : Value} (ht : P.underlying t = some (.slice e)) (he : P.underlying e = some (.int q)) (hc : P.cellsOf e = 1) (h : DataW.trod enc P w base spare held fuel t [v] = some x) :
    ∃ a c zs, v = .slice a zs.length c ∧ RowAt q w a zs ∧ (a = none → c = 0) ∧ zs.length ≤ 9223372036854775807 ∧ ∀ z ∈ zs, (Lit.int q z).wf = true := by
  rcases open_ints ht he hc h with ⟨hcs, _⟩ | ⟨a, len, cap, zs, hcs, _, hl, hm, hz, _, hcell, hw⟩
  · simp only [List.cons.injEq, and_true] at hcs
    exact ⟨none, 0, [], hcs, RowAt.nil, fun _ => rfl, by simp, by simp⟩
  · simp only [List.cons.injEq, and_true] at hcs
    have hlz : len ≤ zs.length := by split at hz <;> omega
    refine ⟨some a, cap, zs.take len, by rw [hcs, List.length_take, Nat.min_eq_left hlz], fun i hi => ?_, by simp, ?_, fun z hz => hw z (List.mem_of_mem_take hz)⟩
    · rw [List.length_take] at hi
      have hcl := hcell i (by omega)
      obtain ⟨b, o, s⟩ := a
      have h0 := hcell 0 (by omega)
      have hs : s = none := by simpa [Addr.add] using World.cell?_spot h0
      subst hs
      refine ⟨b, o, rfl, ?_⟩
      rw [Addr.add_lit] at hcl
      rw [hcl, List.getElem_take, List.getD_eq_getElem?_getD, List.getElem?_eq_getElem (by omega)]
      rfl
    · unfold maxLen at hm
      rw [List.length_take]; omega
end

end Go.Proofs.YtbicfaiabpcgfaaGreatDoor
namespace Go.Proofs.YtbicfaiabpcgfaaGreatDoor
open Go.RowKit Go.Shelf

theorem works10_at (w : World) (h : Tab w) : Calls Tryz.prog 8 #[] w fun e w' => e = .returned (.bool true) ∧ Below w.heap.size w w' := by
  obtain ⟨m, hm⟩ := h
  exact works10_any m w hm
end Go.Proofs.YtbicfaiabpcgfaaGreatDoor
namespace Go.Proofs.YtbicfaiabpcgfaaGreatDoor
open Go.ChangeShapes Go.WideShapes Go.ChangeAt Go.RowKit
variable {H : Type} {enc : TypeId × Value → H} {P : Program} {w : World} {base : Nat} {spare : Nat → Bool} {held : Bool} {t e : TypeId} {fuel : Nat} {cs : List Value} {x : DataW H × List MemPlace}

theorem trod_row2 {q : IntKind} {v : Value} (ht : P.underlying t = some (.slice e)) (he : P.underlying e = some (.int q)) (hc : P.cellsOf e = 1) (h : DataW.trod enc P w base spare held fuel t [v] = some x) :
    ∃ a c zs, v = .slice a zs.length c ∧ RowAt q w a zs ∧ (a = none → c = 0) ∧ (zs.length ≤ c ∧ c ≤ 9223372036854775807) ∧ ∀ z ∈ zs, (Lit.int q z).wf = true := by
  obtain ⟨a, c, zs, h1, h2, h3, h4, h5⟩ := trod_row ht he hc h
  refine ⟨a, c, zs, h1, h2, h3, ?_, h5⟩
  rcases open_ints ht he hc h with ⟨hcs, _⟩ | ⟨a', len, cap, zs', hcs, _, hl, hm, _⟩
  · simp only [List.cons.injEq, and_true] at hcs
    rw [h1] at hcs
    injection hcs with e1 e2 e3
    omega
  · simp only [List.cons.injEq, and_true] at hcs
    rw [h1] at hcs
    injection hcs with e1 e2 e3
    unfold maxLen at hm
    omega
end Go.Proofs.YtbicfaiabpcgfaaGreatDoor
namespace Go.Proofs.YtbicfaiabpcgfaaGreatDoor
open Go.RowKit Go.Shelf

theorem code_of {w : World} {a : Option Addr} {c : Nat} {zs : List Int} (hl : zs.length ≤ c ∧ c ≤ 9223372036854775807) (hr : RowAt .u8 w a zs) (ha : a = none → c = 0) (hw : ∀ z ∈ zs, (Lit.int .u8 z).wf = true) (h2 : zs.length ≤ 1000) :
    ∃ cs, zs = natI cs ∧ CodeAt w a c cs := by
  have hz : ∀ z ∈ zs, 0 ≤ z ∧ z ≤ 255 := fun z h => by
    have := hw z h
    simp [Lit.wf, IntKind.min, IntKind.max, IntKind.signed, IntKind.bits] at this
    exact ⟨by omega, by omega⟩
  have e : zs = natI (zs.map Int.toNat) := by
    apply List.ext_getElem (by simp [natI])
    intro i h1 h2
    have := hz zs[i] (List.getElem_mem h1)
    simp [natI]
    omega
  exact ⟨zs.map Int.toNat, e, by rw [← e]; exact hr, ha, by rw [List.length_map]; exact h2, fun x hx => by
    obtain ⟨z, h, rfl⟩ := List.mem_map.1 hx
    have := hz z h
    omega, by rw [List.length_map]; exact hl⟩
end Go.Proofs.YtbicfaiabpcgfaaGreatDoor
namespace Go.Proofs.YtbicfaiabpcgfaaGreatDoor
open Go.RowKit

/-- An entry: key, value, stamp. -/
def entQ (q : IntKind) (e : Int × Value × Nat) : MapEntry := { key := .int q e.1, val := e.2.1, born := e.2.2 }
def mapQ (q : IntKind) (E : List (Int × Value × Nat)) (clk : Nat) : Obj := .map (E.map (entQ q)).toArray clk
theorem findNow_Q (q : IntKind) (n : Int) : ∀ (E : List (Int × Value × Nat)) (j : Nat), ∃ r, Instr.findNow (.int q) (.int q n) (E.map (entQ q)) j = some r ∧
    ((r = none ∧ ∀ e ∈ E, e.1 ≠ n) ∨ ∃ d, ∃ h : d < E.length, r = some (j + d, E[d].2.1) ∧ E[d].1 = n ∧ ∀ i (hi : i < d), (E[i]'(by omega)).1 ≠ n)
  | [], j => ⟨none, rfl, .inl ⟨rfl, by simp⟩⟩
  | e :: E, j => by
    by_cases h : n = e.1
    · refine ⟨some (j, e.2.1), by simp [entQ, Instr.findNow, Instr.sameNow, h], .inr ⟨0, by simp, rfl, h.symm, fun i hi => absurd hi (by omega)⟩⟩
    · obtain ⟨r, h1, h2⟩ := findNow_Q q n E (j + 1)
      have hb : (n == e.1) = false := by simpa using h
      refine ⟨r, by simp [entQ, Instr.findNow, Instr.sameNow, hb]; exact h1, ?_⟩
      rcases h2 with ⟨h2, h3⟩ | ⟨d, hd, h2, h3, h4⟩
      · refine .inl ⟨h2, fun x hx => ?_⟩
        rcases List.mem_cons.1 hx with rfl | hx
        · exact fun e => h e.symm
        · exact h3 x hx
      · refine .inr ⟨d + 1, by simpa using hd, by rw [h2]; simp; omega, by simpa using h3, fun i hi => ?_⟩
        match i, hi with
        | 0, _ => exact fun e => h e.symm
        | i + 1, hi => simpa using h4 i (by omega)
theorem findKey_Q {P : Program} {k : TypeId} {q : IntKind} (hk : P.underlying k = some (.int q)) (n : Int) (E : List (Int × Value × Nat)) (w : World) {r : Option (Nat × Value)} (h : Instr.findNow (.int q) (.int q n) (E.map (entQ q)) 0 = some r) :
    (Instr.findKey k (.int q n) (E.map (entQ q))).run P w = .ok r w := by
  simp [Instr.findKey, run_underlying hk, Sem.run_bind, h]
def valQ (n : Int) (E : List (Int × Value × Nat)) : Option Value := (E.find? fun e => e.1 == n).map (·.2.1)
theorem valQ_none {n : Int} {E : List (Int × Value × Nat)} (h : ∀ e ∈ E, e.1 ≠ n) : valQ n E = none := by
  unfold valQ
  rw [List.find?_eq_none.2 fun e he => by simpa using h e he]; rfl
theorem valQ_get {n : Int} {E : List (Int × Value × Nat)} {d : Nat} (hd : d < E.length) (h : E[d].1 = n) (h2 : ∀ i (hi : i < d), (E[i]'(by omega)).1 ≠ n) : valQ n E = some E[d].2.1 := by
  unfold valQ
  rw [show E.find? (fun e => e.1 == n) = some E[d] from List.find?_eq_some_iff_getElem.2 ⟨by simpa using h, d, hd, rfl, fun i hi => by have := h2 i hi; simpa using this⟩]; rfl
section
variable {P : Program} {q : IntKind} {w : World} {b : Nat} {E : List (Int × Value × Nat)} {clk : Nat}
theorem run_lookQ {t k e : TypeId} (ht : P.underlying t = some (.map k e)) (hk : P.underlying k = some (.int q)) {z : Value} (hz : ∀ w, (zeroValue e).run P w = .ok z w) (n : Int) (c : Bool) (hb : w.heap[b]? = some (mapQ q E clk)) :
    (Instr.lookup t (.map (some b)) (.int q n) c).run P w = .ok (if c then .tuple #[(valQ n E).getD z, .bool (valQ n E).isSome] else (valQ n E).getD z) w := by
  obtain ⟨r, h1, h2⟩ := findNow_Q q n E 0
  unfold mapQ at hb
  simp only [Instr.lookup, run_underlying ht, Sem.run_bind, Result.andThen_ok, getObj, Sem.run, hb]
  simp [checkKey_int hk, findKey_Q hk n E w h1]
  rcases h2 with ⟨rfl, h3⟩ | ⟨d, hd, rfl, h3, h4⟩
  · rw [valQ_none h3]; simp [hz]
  · rw [valQ_get hd h3 h4]; simp
/-- An entry more. -/
theorem run_putQ_new {t k e : TypeId} (ht : P.underlying t = some (.map k e)) (hk : P.underlying k = some (.int q)) (n : Int) (v : Value) (hb : w.heap[b]? = some (mapQ q E clk)) (hn : ∀ e ∈ E, e.1 ≠ n) :
    (Instr.mapUpdate t (.map (some b)) (.int q n) v).run P w = .ok () (w.putObj b (mapQ q (E ++ [(n, v, clk)]) (clk + 1))) := by
  obtain ⟨r, h1, h2⟩ := findNow_Q q n E 0
  have hr : r = none := by
    rcases h2 with ⟨h2, -⟩ | ⟨d, hd, -, h3, -⟩
    · exact h2
    · exact absurd h3 (hn _ (List.getElem_mem hd))
  subst hr
  unfold mapQ at hb
  simp only [Instr.mapUpdate, run_underlying ht, Sem.run_bind, Result.andThen_ok, getObj, setObj, Sem.run, hb, checkKey_int hk, findKey_Q hk n E w h1]
  show Result.ok () (w.putObj b _) = _
  congr 2
  simp [mapQ, entQ]
/-- The value of an entry laid anew. -/
theorem run_putQ_old {t k e : TypeId} (ht : P.underlying t = some (.map k e)) (hk : P.underlying k = some (.int q)) (n : Int) (v : Value) (hb : w.heap[b]? = some (mapQ q E clk)) {d : Nat} (hd : d < E.length) (h3 : E[d].1 = n) (h4 : ∀ i (hi : i < d), (E[i]'(by omega)).1 ≠ n) :
    (Instr.mapUpdate t (.map (some b)) (.int q n) v).run P w = .ok () (w.putObj b (mapQ q (E.set d (n, v, E[d].2.2)) clk)) := by
  obtain ⟨r, h1, h2⟩ := findNow_Q q n E 0
  have hr : r = some (d, E[d].2.1) := by
    rcases h2 with ⟨-, h5⟩ | ⟨d', hd', h5, h6, h7⟩
    · exact absurd h3 (h5 _ (List.getElem_mem hd))
    · have e : d' = d := by
        rcases Nat.lt_trichotomy d' d with h | h | h
        · exact absurd h6 (h4 d' h)
        · exact h
        · exact absurd h3 (h7 d h)
      subst e
      rw [h5, Nat.zero_add]
  subst hr
  unfold mapQ at hb
  have hks : ∀ c : Value, (Instr.keyThatStays (.int q n) (.int q n)).run P w = .ok (.int q n) w := fun _ => by
    unfold Instr.keyThatStays
    rw [if_pos (by show Instr.sameBits (9999 + 1) _ _ = true; simp [Instr.sameBits])]
    simp
  have h3' : (Option.map (fun x => x.key) (E.map (entQ q)).toArray[d]?).getD (.int q n) = .int q n := by
    rw [List.getElem?_toArray, List.getElem?_map, List.getElem?_eq_getElem hd]
    simp [entQ, h3]
  simp only [Instr.mapUpdate, run_underlying ht, Sem.run_bind, Result.andThen_ok, getObj, setObj, Sem.run, hb, checkKey_int hk, findKey_Q hk n E w h1, h3', hks undef]
  show Result.ok () (w.putObj b _) = _
  congr 2
  unfold mapQ
  congr 1
  apply Array.ext'
  rw [Array.toList_modify]
  show (E.map (entQ q)).modify d _ = (E.set d _).map (entQ q)
  apply List.ext_getElem (by simp)
  intro i h5 h6
  rw [List.getElem_modify]
  simp only [List.getElem_map, List.getElem_set]
  by_cases e : d = i
  · subst e; simp [entQ]
  · simp [e]
theorem erase_filter {n : Int} : ∀ {E : List (Int × Value × Nat)} {d : Nat} (hd : d < E.length), (E.map (·.1)).Nodup → E[d].1 = n → E.eraseIdx d = E.filter fun e => decide (e.1 ≠ n)
  | x :: E, 0, hd, hn, h => by
    rw [List.eraseIdx_zero, List.tail_cons]
    rw [List.map_cons, List.nodup_cons] at hn
    simp only [List.getElem_cons_zero] at h
    rw [List.filter_cons_of_neg (by simp [h])]
    refine (List.filter_eq_self.2 fun e he => ?_).symm
    have : e.1 ≠ x.1 := fun h2 => hn.1 (List.mem_map.2 ⟨e, he, h2⟩)
    rw [h] at this
    simpa using this
  | x :: E, d + 1, hd, hn, h => by
    rw [List.map_cons, List.nodup_cons] at hn
    have hd' : d < E.length := by simpa using hd
    have h' : E[d].1 = n := by simpa using h
    have : x.1 ≠ n := fun e => hn.1 (List.mem_map.2 ⟨E[d], List.getElem_mem hd', by rw [h', e]⟩)
    rw [List.eraseIdx_cons_succ, List.filter_cons_of_pos (by simpa using this), erase_filter hd' hn.2 h']
theorem eraseIdx_ent (q : IntKind) : ∀ (E : List (Int × Value × Nat)) (d : Nat), (E.map (entQ q)).eraseIdx d = (E.eraseIdx d).map (entQ q)
  | [], _ => rfl
  | _ :: _, 0 => rfl
  | x :: E, d + 1 => by rw [List.map_cons, List.eraseIdx_cons_succ, List.eraseIdx_cons_succ, eraseIdx_ent q E d, List.map_cons]
/-- An entry goes. -/
theorem run_delQ {t k e ty : TypeId} (ht : P.underlying t = some (.map k e)) (hk : P.underlying k = some (.int q)) (n : Int) (hb : w.heap[b]? = some (mapQ q E clk)) (hn : (E.map (·.1)).Nodup) :
    (Builtin.delete_ #[t, k] ty #[.map (some b), .int q n]).run P w = .ok (.tuple #[]) (w.putObj b (mapQ q (E.filter fun e => decide (e.1 ≠ n)) clk)) := by
  obtain ⟨r, h1, h2⟩ := findNow_Q q n E 0
  unfold mapQ at hb
  rcases h2 with ⟨rfl, h3⟩ | ⟨d, hd, rfl, h3, h4⟩
  · have hf : E.filter (fun e => decide (e.1 ≠ n)) = E := List.filter_eq_self.2 fun e he => by simpa using h3 e he
    rw [hf]
    simp [Builtin.delete_, run_underlying ht, Sem.run_bind, getObj, setObj, Sem.run, hb, checkKey_int hk, findKey_Q hk n E w h1, Result.andThen]
    rfl
  · rw [← erase_filter hd hn h3]
    rw [Nat.zero_add] at h1
    simp [Builtin.delete_, run_underlying ht, Sem.run_bind, getObj, setObj, Sem.run, hb, checkKey_int hk, findKey_Q hk n E w h1, Result.andThen]
    show w.putObj b _ = w.putObj b _
    congr 1
    unfold mapQ
    congr 1
    apply Array.ext'
    simp [Array.eraseIdxIfInBounds, hd]
    exact eraseIdx_ent q E d
theorem run_lenQ {t k e : TypeId} (ht : P.underlying t = some (.map k e)) (T : TypeId) (hb : w.heap[b]? = some (mapQ q E clk)) : (Builtin.len_ #[t] T #[.map (some b)]).run P w = .ok (.int .i64 E.length) w := by
  unfold mapQ at hb
  simp only [Builtin.len_, List.getElem?_toArray, List.getElem?_cons_zero]
  simp only [run_underlying ht, Sem.run_bind, Result.andThen_ok, getObj, Sem.run, hb]
  simp [go_sem]
end
end Go.Proofs.YtbicfaiabpcgfaaGreatDoor
namespace Go.Proofs.YtbicfaiabpcgfaaGreatDoor
open Go.RowKit

/-- A place more. -/
def plusK (K : List Nat) (n : Nat) : List Nat := if n ∈ K then K else K ++ [n]
def oneN (b : Bool) : Int := if b then 1 else 0

/-- The entries of a set. -/
structure OneE (E : List (Int × Value × Nat)) (clk : Nat) (K : List Nat) : Prop where
  key : E.map (·.1) = natI K
  nd : K.Nodup
  val : ∀ e ∈ E, e.2.1 = .int .i64 1
  sn : (E.map (·.2.2)).Nodup
  lt : ∀ e ∈ E, e.2.2 < clk
def OneA (w : World) (b : Nat) (K : List Nat) : Prop := ∃ E clk, w.heap[b]? = some (mapQ .i64 E clk) ∧ OneE E clk K
theorem OneA.lt {w : World} {b : Nat} {K : List Nat} (h : OneA w b K) : b < w.heap.size := by
  obtain ⟨E, clk, h1, -⟩ := h
  exact (Array.getElem?_eq_some_iff.1 h1).1
theorem OneA.same {w w' : World} {b : Nat} {K : List Nat} (h : OneA w b K) (hs : w'.heap[b]? = w.heap[b]?) : OneA w' b K := by
  obtain ⟨E, clk, h1, h2⟩ := h
  exact ⟨E, clk, hs.trans h1, h2⟩
theorem OneA.below {w w' : World} {b : Nat} {K : List Nat} (h : OneA w b K) (hb : Below w.heap.size w w') : OneA w' b K := h.same (hb.block b h.lt)
theorem OneA.only {O : Nat → Prop} {w w' : World} {b : Nat} {K : List Nat} (h : OneA w b K) (ho : Only O w w') (hb : ¬ O b) : OneA w' b K := h.same (ho.same b h.lt hb)
theorem OneA.new (w : World) : OneA (w.alloc (mapI .i64 [])) w.heap.size [] := ⟨[], 0, World.alloc_heap_new w _, rfl, List.nodup_nil, by simp, by simp, by simp⟩
theorem OneE.mem {E : List (Int × Value × Nat)} {clk : Nat} {K : List Nat} (h : OneE E clk K) {k : Nat} : k ∈ K ↔ ∃ e ∈ E, e.1 = (k : Int) := by
  constructor
  · intro hk
    have : (k : Int) ∈ natI K := List.mem_map.2 ⟨k, hk, rfl⟩
    rw [← h.key, List.mem_map] at this
    obtain ⟨e, he, h2⟩ := this
    exact ⟨e, he, h2⟩
  · rintro ⟨e, he, h2⟩
    have : e.1 ∈ natI K := by rw [← h.key]; exact List.mem_map.2 ⟨e, he, rfl⟩
    obtain ⟨j, hj, h3⟩ := List.mem_map.1 this
    have : j = k := by rw [h2] at h3; omega
    rw [← this]; exact hj
theorem OneE.nat {E : List (Int × Value × Nat)} {clk : Nat} {K : List Nat} (h : OneE E clk K) {e : Int × Value × Nat} (he : e ∈ E) : ∃ k ∈ K, e.1 = ((k : Nat) : Int) := by
  have : e.1 ∈ natI K := by rw [← h.key]; exact List.mem_map.2 ⟨e, he, rfl⟩
  obtain ⟨j, hj, h3⟩ := List.mem_map.1 this
  exact ⟨j, hj, h3.symm⟩
theorem OneE.find {E : List (Int × Value × Nat)} {clk : Nat} {K : List Nat} (h : OneE E clk K) (k : Nat) : valQ (k : Int) E = if k ∈ K then some (.int .i64 1) else none := by
  unfold valQ
  by_cases hk : k ∈ K
  · rw [if_pos hk]
    obtain ⟨e, he, h2⟩ := h.mem.1 hk
    cases hf : E.find? (fun e => e.1 == (k : Int)) with
    | none => exact absurd (List.find?_eq_none.1 hf e he) (by simp [h2])
    | some x =>
      show some x.2.1 = _
      rw [h.val x (List.mem_of_find?_eq_some hf)]
  · rw [if_neg hk, List.find?_eq_none.2]
    · rfl
    · intro e he
      have : ¬ e.1 = (k : Int) := fun h2 => hk (h.mem.2 ⟨e, he, h2⟩)
      simpa using this
theorem OneE.len {E : List (Int × Value × Nat)} {clk : Nat} {K : List Nat} (h : OneE E clk K) : E.length = K.length := by
  have := congrArg List.length h.key
  simpa [natI] using this
theorem OneE.keyNd {E : List (Int × Value × Nat)} {clk : Nat} {K : List Nat} (h : OneE E clk K) : (E.map (·.1)).Nodup := by
  rw [h.key]
  unfold natI
  exact List.Pairwise.map _ (fun a b hab e => hab (by omega)) h.nd
theorem OneE.add {E : List (Int × Value × Nat)} {clk : Nat} {K : List Nat} (h : OneE E clk K) {k : Nat} (hk : k ∉ K) : OneE (E ++ [((k : Int), .int .i64 1, clk)]) (clk + 1) (K ++ [k]) := by
  refine ⟨by rw [List.map_append, h.key, natI_app]; rfl, List.nodup_append.2 ⟨h.nd, by simp, fun a ha b hb e => hk (by simp at hb; rw [← hb, ← e]; exact ha)⟩, fun e he => ?_, ?_, fun e he => ?_⟩
  · rcases List.mem_append.1 he with he | he
    · exact h.val e he
    · rw [List.mem_singleton] at he; rw [he]
  · rw [List.map_append, List.nodup_append]
    refine ⟨h.sn, by simp, fun a ha b hb e => ?_⟩
    obtain ⟨x, hx, rfl⟩ := List.mem_map.1 ha
    have := h.lt x hx
    simp at hb
    omega
  · rcases List.mem_append.1 he with he | he
    · have := h.lt e he; omega
    · rw [List.mem_singleton] at he; rw [he]; exact Nat.lt_succ_self _
theorem OneE.drop {E : List (Int × Value × Nat)} {clk : Nat} {K : List Nat} (h : OneE E clk K) (p : Nat → Bool) : OneE (E.filter fun e => p e.1.toNat) clk (K.filter p) := by
  have hk : (E.filter fun e => p e.1.toNat).map (·.1) = natI (K.filter p) := by
    have : ∀ (E : List (Int × Value × Nat)) (K : List Nat), E.map (·.1) = natI K → (E.filter fun e => p e.1.toNat).map (·.1) = natI (K.filter p) := by
      intro E
      induction E with
      | nil =>
        intro K hK
        match K, hK with
        | [], _ => rfl
      | cons e E ih =>
        intro K hK
        match K, hK with
        | k :: K, hK =>
          rw [List.map_cons, natI_cons] at hK
          injection hK with h1 h2
          have h3 : e.1.toNat = k := by rw [h1]; exact Int.toNat_natCast k
          by_cases hp : p k = true
          · rw [List.filter_cons_of_pos (by rw [h3]; exact hp), List.filter_cons_of_pos hp, List.map_cons, natI_cons, ih K h2, h1]
          · rw [List.filter_cons_of_neg (by rw [h3]; exact hp), List.filter_cons_of_neg hp, ih K h2]
    exact this E K h.key
  exact ⟨hk, h.nd.filter _, fun e he => h.val e (List.mem_filter.1 he).1, (List.filter_sublist.map _).nodup h.sn, fun e he => h.lt e (List.mem_filter.1 he).1⟩
section
variable {P : Program} {t k : TypeId} {w : World} {b : Nat} {K : List Nat}
theorem OneA.look (h : OneA w b K) {e : TypeId} (ht : P.underlying t = some (.map k e)) (hk : P.underlying k = some (.int .i64)) (hz : ∀ w, (zeroValue e).run P w = .ok (.int .i64 0) w) (n : Nat) :
    (Instr.lookup t (.map (some b)) (.int .i64 n) false).run P w = .ok (.int .i64 (oneN (decide (n ∈ K)))) w := by
  obtain ⟨E, clk, h1, h2⟩ := h
  rw [run_lookQ ht hk hz _ _ h1, h2.find, if_neg (by decide)]
  by_cases hn : n ∈ K
  · rw [if_pos hn, decide_eq_true hn]; rfl
  · rw [if_neg hn, decide_eq_false hn]; rfl
theorem OneA.len (h : OneA w b K) {e : TypeId} (ht : P.underlying t = some (.map k e)) (T : TypeId) : (Builtin.len_ #[t] T #[.map (some b)]).run P w = .ok (.int .i64 K.length) w := by
  obtain ⟨E, clk, h1, h2⟩ := h
  rw [run_lenQ ht T h1, h2.len]
theorem OneA.put (h : OneA w b K) {e : TypeId} (ht : P.underlying t = some (.map k e)) (hk : P.underlying k = some (.int .i64)) (n : Nat) :
    ∃ w', (Instr.mapUpdate t (.map (some b)) (.int .i64 n) (.int .i64 1)).run P w = .ok () w' ∧ OneA w' b (plusK K n) ∧ Only (· = b) w w' := by
  have hb := h.lt
  obtain ⟨E, clk, h1, h2⟩ := h
  by_cases hn : n ∈ K
  · obtain ⟨r, hr1, hr2⟩ := findNow_Q .i64 (n : Int) E 0
    rcases hr2 with ⟨-, h3⟩ | ⟨d, hd, -, h3, h4⟩
    · obtain ⟨x, hx, h5⟩ := h2.mem.1 hn
      exact absurd h5 (h3 x hx)
    · refine ⟨_, run_putQ_old ht hk _ _ h1 hd h3 h4, ?_, (Only.refl _ _).putObj b _ rfl⟩
      have he : E.set d ((n : Int), .int .i64 1, E[d].2.2) = E := by
        have : ((n : Int), Value.int .i64 1, E[d].2.2) = E[d] := by
          rw [← h3, ← h2.val E[d] (List.getElem_mem hd)]
        rw [this, List.set_getElem_self]
      rw [he]
      unfold plusK
      rw [if_pos hn]
      exact ⟨E, clk, World.putObj_heap_same hb, h2⟩
  · refine ⟨_, run_putQ_new ht hk _ _ h1 (fun e he h3 => hn (h2.mem.2 ⟨e, he, h3⟩)), ?_, (Only.refl _ _).putObj b _ rfl⟩
    unfold plusK
    rw [if_neg hn]
    exact ⟨_, _, World.putObj_heap_same hb, h2.add hn⟩
end
section
variable {P : Program} {o : Oper} {a : Act} {w : World} {ops : Array Oper} {rest : List Oper} {Q : Exit → Act → World → Prop}
theorem exec_lookO (t k e : TypeId) (x y : Operand) (ho : o.op = .lookup t x y false) (ht : P.underlying t = some (.map k e)) (hk : P.underlying k = some (.int .i64)) (hz : ∀ w, (zeroValue e).run P w = .ok (.int .i64 0) w) (b n : Nat) (K : List Nat)
    (hx : a.eval x = .map (some b)) (hy : a.eval y = .int .i64 n) (h : OneA w b K) : (execOp a.eval o).run P w = .ok (.value (.int .i64 (oneN (decide (n ∈ K))))) w := by
  unfold execOp
  simp only [ho, hx, hy, Sem.run_bind, h.look ht hk hz n, Result.andThen_ok, Sem.run_pure]
theorem exec_lenO (t k e : TypeId) (x : Operand) (ho : o.op = .call { callee := .builtin .len, args := #[x], argTypes := #[t] }) (ht : P.underlying t = some (.map k e)) (b : Nat) (K : List Nat) (hx : a.eval x = .map (some b)) (h : OneA w b K) :
    (execOp a.eval o).run P w = .ok (.value (.int .i64 K.length)) w := by
  unfold execOp
  simp only [ho, resolve, invoke, builtin, Sem.run_bind, Sem.run_pure, Result.andThen_ok, List.map_toArray, List.map_cons, List.map_nil, hx, h.len ht]
theorem wpList_putO (hgd : o.guard = none) (t k e : TypeId) (x y z : Operand) (ho : o.op = .mapUpdate t x y z) (ht : P.underlying t = some (.map k e)) (hk : P.underlying k = some (.int .i64)) (b n : Nat) (K : List Nat) (hx : a.eval x = .map (some b)) (hy : a.eval y = .int .i64 n) (hz : a.eval z = .int .i64 1) (hS : OneA w b K)
    (h : ∀ w', OneA w' b (plusK K n) → Only (· = b) w w' → wpList P ops Q rest (a.put o.dst undef) w') : wpList P ops Q (o :: rest) a w := by
  refine wpList_plain hgd fun _ hK => ?_
  obtain ⟨w', h1, h2, h3⟩ := hS.put ht hk n
  unfold Oper.wp execOp
  simp only [ho, hx, hy, hz, Sem.run_bind, h1, Result.andThen_ok, Sem.run_pure]
  exact hK _ _ (h w' h2 h3)
theorem wpListIn_delO {F : Fence} {N : Nat} (hgd : o.guard = none) (t k e : TypeId) (x y : Operand) (ho : o.op = .call { callee := .builtin .delete, args := #[x, y], argTypes := #[t, k] }) (ht : P.underlying t = some (.map k e)) (hk : P.underlying k = some (.int .i64)) (b n : Nat) (K : List Nat) (hx : a.eval x = .map (some b)) (hy : a.eval y = .int .i64 n) (hS : OneA w b K)
    (h : ∀ w', OneA w' b (K.filter fun x => decide (x ≠ n)) → Only (· = b) w w' → wpListIn F N P ops Q rest (a.put o.dst (.tuple #[])) w') : wpListIn F N P ops Q (o :: rest) a w := by
  have hb := hS.lt
  obtain ⟨E, clk, h1, h2⟩ := hS
  have e : (E.filter fun e => decide (e.1 ≠ (n : Int))) = E.filter fun e => decide (e.1.toNat ≠ n) := List.filter_congr fun x hx => by
    obtain ⟨j, -, hj⟩ := h2.nat hx
    rw [hj, Int.toNat_natCast, Bool.eq_iff_iff, decide_eq_true_eq, decide_eq_true_eq]
    omega
  refine wpListIn_plain hgd fun K' hK' => ?_
  unfold Oper.wpIn
  refine ⟨by simp [Oper.about, ho, resolve, Target.leads], ?_⟩
  rw [Oper.semAt_plain F _ _ (by rw [ho]; intro c hc; cases hc)]
  have hrun : (execOp a.eval o).run P w = .ok (.value (.tuple #[])) (w.putObj b (mapQ .i64 (E.filter fun e => decide (e.1 ≠ (n : Int))) clk)) := by
    unfold execOp
    simp only [ho, resolve, invoke, builtin, Sem.run_bind, Sem.run_pure, Result.andThen_ok, List.map_toArray, List.map_cons, List.map_nil, hx, hy, run_delQ ht hk (n : Int) h1 h2.keyNd]
  rw [hrun, e]
  exact hK' _ _ (h _ ⟨_, clk, World.putObj_heap_same hb, h2.drop fun x => decide (x ≠ n)⟩ ((Only.refl _ _).putObj b _ rfl))
theorem wpListIn_run_g {F : Fence} {N : Nat} (hw : Region.wanted o (yielded ops a.tmps) = true) (hnd : ∀ c, o.op ≠ .defer c) (hab : ∀ f, o.about P w a.eval = some f → F.fn f) (v : Value)
    (hr : (execOp a.eval o).run P w = .ok (.value v) w) (h : wpListIn F N P ops Q rest (a.put o.dst v) w) : wpListIn F N P ops Q (o :: rest) a w := by
  refine wpListIn_step fun K hK => ?_
  rw [if_pos hw]
  unfold Oper.wpIn
  refine ⟨hab, ?_⟩
  rw [Oper.semAt_plain F _ _ hnd, hr]
  exact hK _ _ h
theorem wpListIn_lookO {F : Fence} {N : Nat} (hw : Region.wanted o (yielded ops a.tmps) = true) (t k e : TypeId) (x y : Operand) (ho : o.op = .lookup t x y false) (ht : P.underlying t = some (.map k e)) (hk : P.underlying k = some (.int .i64)) (hz : ∀ w, (zeroValue e).run P w = .ok (.int .i64 0) w) (b n : Nat) (K : List Nat)
    (hx : a.eval x = .map (some b)) (hy : a.eval y = .int .i64 n) (hS : OneA w b K) (v : Int) (hv : oneN (decide (n ∈ K)) = v) (h : wpListIn F N P ops Q rest (a.put o.dst (.int .i64 v)) w) : wpListIn F N P ops Q (o :: rest) a w :=
  wpListIn_run_g hw (by rw [ho]; intro c hc; cases hc) (by simp [Oper.about, ho]) _ (exec_lookO t k e x y ho ht hk hz b n K hx hy hS) (by rw [hv]; exact h)
theorem wpList_lenO (hw : Region.wanted o (yielded ops a.tmps) = true) (t k e : TypeId) (x : Operand) (ho : o.op = .call { callee := .builtin .len, args := #[x], argTypes := #[t] }) (ht : P.underlying t = some (.map k e)) (b : Nat) (K : List Nat) (hx : a.eval x = .map (some b)) (hS : OneA w b K) (v : Int) (hv : (K.length : Int) = v)
    (h : wpList P ops Q rest (a.put o.dst (.int .i64 v)) w) : wpList P ops Q (o :: rest) a w :=
  wpList_wanted hw fun _ hK => by
    unfold Oper.wp
    rw [exec_lenO t k e x ho ht b K hx hS, hv]
    exact hK _ _ h
end
