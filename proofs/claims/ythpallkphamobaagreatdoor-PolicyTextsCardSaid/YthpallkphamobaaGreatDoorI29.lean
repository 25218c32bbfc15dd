/- Texts of this claim, merged; no condition. -/
import Derived.Test.YthpallkphamobaaGreatDoorRows
import Derived.Handed
import Derived.Shelf.Vars
import Derived.ProofKit
import Derived.Lib.LaidTab
import Derived.LaidMore
import Derived.LaidLaws
import Derived.Stop.LaidErr
import Derived.Test.YthpallkphamobaaGreatDoorI17
import Derived.OpenShut
import Derived.ShutString
import Derived.ChangeOld
import Derived.Below
import Derived.Test.YthpallkphamobaaGreatDoorI01
import Derived.DataReads
import Derived.ChangeArms
import Derived.Test.YthpallkphamobaaGreatDoorI08
import Derived.Test.YthpallkphamobaaGreatDoorI24
import Derived.Test.YthpallkphamobaaGreatDoorI28
set_option linter.all false
namespace Go.Proofs.YthpallkphamobaaGreatDoor
open Go.RowKit

theorem handed_and_shaped {H : Type} {enc : TypeId × Value → H} {a : Assume} {C : Checked} {os : Os} {f : FuncId} {fn : Func} {s : ChangeSpec} {conds : List PathCond} {apart fresh handsOn again : Bool} {X : World → Array Value → Prop}
    (hX : ∀ (w w' : World) (args : Array Value), w.heap = w'.heap → X w args → X w' args)
    (own : ownKnob C.prog.godebug = none) (started : os.Started) (noInit : C.prog.inits.idxOf? f = none) (hfn : C.prog.funcs[f]? = some fn)
    (witness : ∃ (w : World) (tape : Tape) (i : Input), w.os = os ∧ (w.forCall tape i).Shaped C.prog ∧ i.vars = [] ∧ Input.okWide C.prog (w.forCall tape i) .any w.heap.size f i ∧
      ((s.pre enc C.prog fn conds apart (w.forCall tape i).memory i.args ∧ X (w.forCall tape i).memory i.args) ∧ sizedMet enc C.prog fn (OpenSpec.ofChange s) apart (w.forCall tape i).memory i.args) ∧ a.holds C.prog (lone (Frame.enter C.prog f i.args .normal) [] (w.forCall tape i)))
    (walk : ∀ (W : World) (base : Nat) (args : Array Value) (ds gs : List (DataW H)) (before : List MemPlace),
      (∀ (j : Nat) t v, fn.params[j]? = some t → args[j]? = some v → Value.okWide C.prog W .any base t v) →
      DataW.Whole enc C.prog fn.params.toList s.vars apart W args.toList ds gs before →
      X W args → W.ShapedOpen C.prog →
      Calls C.prog f args W fun e W' => ∃ v, e = .returned v ∧ s.post enc C.prog fn apart fresh handsOn again W args v W') :
    ReturnsInHanded a C os f .any (fun w args => (s.pre enc C.prog fn conds apart w args ∧ X w args) ∧ sizedMet enc C.prog fn (OpenSpec.ofChange s) apart w args) (s.post enc C.prog fn apart fresh handsOn again) := by
  refine returnsInHanded_of_calls own started noInit witness fun w tape i _ hsh _ hok hpre _ => ?_
  obtain ⟨_, _, _, fn2, hfn2, _, _, _, _, hval⟩ := hok
  obtain rfl : fn2 = fn := Option.some.inj (hfn2.symm.trans hfn)
  obtain ⟨⟨⟨ds, gs, before, hw, -⟩, hx⟩, -⟩ := hpre
  refine (walk (w.forCall tape i) w.heap.size i.args ds gs before hval (DataW.Whole.of_heap (w' := w.forCall tape i) (by rfl) hw) (hX _ _ _ (by rfl) hx) hsh).mono fun e W' h => ?_
  obtain ⟨v, rfl, hp⟩ := h
  exact ChangeSpec.post_blind hp
theorem gT64 : Tryz.prog.globalNamed "math/bits.deBruijn64tab" = some gtab := by kernel_rfl
theorem gT64T : (Tryz.prog.globals[gtab]?).map (·.type) = some 199 := by kernel_rfl
theorem gT10 : Tryz.prog.globalNamed "internal/strconv.uint64pow10" = some 4 := by kernel_rfl
theorem gT10T : (Tryz.prog.globals[4]?).map (·.type) = some 203 := by kernel_rfl
theorem gTS : Tryz.prog.globalNamed "strconv.ErrSyntax" = some 5 := by kernel_rfl
theorem gTST : (Tryz.prog.globals[5]?).map (·.type) = some 97 := by kernel_rfl
theorem gTR : Tryz.prog.globalNamed "strconv.ErrRange" = some 6 := by kernel_rfl
theorem gTRT : (Tryz.prog.globals[6]?).map (·.type) = some 97 := by kernel_rfl
theorem starE : "*" ++ "errors.errorString" = "*errors.errorString" := by decide
theorem rowE (u : TypeId) (h : Tryz.prog.typeName? 3 u = some "*errors.errorString") : u = 218 :=
  typeName_ptr_named (nm := "errors.errorString") (by rw [starE]; kernel_rfl) (by kernel_rfl) (by decide) u (by rw [starE]; exact h)
def tabZs : List Int := Lib.deBruijn64tab.map fun n : Nat => (n : Int)
theorem var_heap {W W' : World} {P : Program} {n : String} {g : Nat} (hg : P.globalNamed n = some g) (h : W'.heap[g]? = W.heap[g]?) : W'.var? P n = W.var? P n := by
  unfold World.var?
  simp only [hg, Option.bind_some, h]
theorem tabP_of {W : World} (h : laidMetH Tryz.prog Rows.policyNamesRow.laid W) (hsh : W.ShapedOpen Tryz.prog) : TabP W := by
  rw [MakeChecks.laidMetH_plain _ _ _ (by kernel_rfl)] at h
  have h64 := laidMet.tail h
  have h10 := laidMet.tail h64
  have hR := laidMet.tail (laidMet.tail h10)
  have hS := laidMet.tail hR
  have hT : Lib.TabIs Tryz.prog W "math/bits.deBruijn64tab" .u8 tabZs := Lib.tabIs_of_head gT64 gT64T Tryz.underlying199 Tryz.underlying5 (by kernel_rfl) (by kernel_rfl) h64
  have hP : Lib.TabIs Tryz.prog W "internal/strconv.uint64pow10" .u64 Lib.pow10Tab := Lib.tabIs_of_head gT10 gT10T Tryz.underlying203 Tryz.underlying22 (by kernel_rfl) (by kernel_rfl) h10
  obtain ⟨aR, _, hvR, -⟩ := laid_sentinel hR gTR gTRT Tryz.underlying97 rowE Tryz.underlying218 Tryz.underlying220 rfl rfl Tryz.underlying9 (by kernel_rfl) (by kernel_rfl)
  obtain ⟨aS, _, hvS, -⟩ := laid_sentinel hS gTS gTST Tryz.underlying97 rowE Tryz.underlying218 Tryz.underlying220 rfl rfl Tryz.underlying9 (by kernel_rfl) (by kernel_rfl)
  have c7 : ∃ v, W.cell? ⟨7, 0, none⟩ = some v := by
    obtain ⟨g, hg, hc⟩ : ∃ g, Tryz.prog.globalNamed "math/bits.deBruijn32tab" = some g ∧ g = 7 := ⟨7, by kernel_rfl, rfl⟩
    subst hc
    have hT32 : Lib.TabIs Tryz.prog W "math/bits.deBruijn32tab" .u8 (Lib.deBruijn32tab.map fun n : Nat => (n : Int)) := Lib.tabIs_of_head hg (t := 108) (by kernel_rfl) Tryz.underlying108 Tryz.underlying5 (by kernel_rfl) (by kernel_rfl) h
    exact ⟨_, hT32.cell hg 0 (by rw [List.length_map]; decide)⟩
  refine ⟨fun j hj => ?_, cell_of_shapedOpen_int (t := 3) (zero := #[.int .i64 0]) hsh (of_decide_eq_true (by kernel_rfl)) (by kernel_rfl) rfl (by kernel_rfl) (by kernel_rfl) Tryz.underlying3, ?_, fun W' e => ?_, ?_, ?_⟩
  · have := hT.cell gT64 j (by unfold tabZs; rw [List.length_map]; exact hj)
    rw [this]
    unfold tabZs
    simp [hj]
  · obtain ⟨v, hv⟩ := c7
    have := cell_lt hv
    exact this
  · unfold Lib.TabIs
    rw [var_heap gT10 e]
    exact hP
  · exact ⟨_, _, by simpa using World.var?_cell gTS hvS 0⟩
  · exact ⟨_, _, by simpa using World.var?_cell gTR hvR 0⟩
end Go.Proofs.YthpallkphamobaaGreatDoor
namespace Go.Proofs.YthpallkphamobaaGreatDoor
open Go.ChangeShapes Go.WideShapes Go.ChangeAt Go.RowKit
open Go.ChangeMaps (open_string shut_string)

/-- What became of the walk of a law: true, and nothing that was there has turned. -/
def Yes (w : World) (e : Ending) (w' : World) : Prop := e = .returned (.bool true) ∧ Below w.heap.size w w'

section
variable {H : Type} {enc : TypeId × Value → H} {P : Program} {w : World} {base : Nat} {spare : Nat → Bool} {held : Bool} {t e : TypeId} {fuel : Nat} {cs : List Value} {x : DataW H × List MemPlace}

/-- An array whose elements are of one cell each: cell by cell. -/
theorem trod_arr1 {n : Nat} (ht : P.underlying t = some (.array n e)) (hc : P.cellsOf e = 1) (hct : P.cellsOf t = n) (h : DataW.trod enc P w base spare held fuel t cs = some x) :
    cs.length = n ∧ ∀ i (hi : i < cs.length), ∃ m y, DataW.trod enc P w base spare held m e [cs[i]] = some y := by
  obtain ⟨xs, m, _, _, hl, hx, hi⟩ := DataW.trod_array ht h
  have hl' : cs.length = n := hl.trans hct
  refine ⟨hl', fun i hlt => ?_⟩
  have := hi i (by omega)
  rw [hc, Nat.mul_one, List.drop_eq_getElem_cons hlt, List.take_succ_cons, List.take_zero, List.getElem?_eq_getElem (by omega)] at this
  exact ⟨m, _, this⟩

theorem trod_intsA {n : Nat} {q : IntKind} (ht : P.underlying t = some (.array n e)) (he : P.underlying e = some (.int q)) (hc : P.cellsOf e = 1) (hct : P.cellsOf t = n) (h : DataW.trod enc P w base spare held fuel t cs = some x) :
    ∃ zs : List Int, zs.length = n ∧ cs = zs.map (Value.int q) ∧ ∀ z ∈ zs, (Lit.int q z).wf = true := by
  obtain ⟨hl, hi⟩ := trod_arr1 ht hc hct h
  have hv : ∀ v ∈ cs, ∃ z, v = .int q z ∧ (Lit.int q z).wf = true := fun v hv => by
    obtain ⟨i, hlt, rfl⟩ := List.getElem_of_mem hv
    obtain ⟨m, y, hy⟩ := hi i hlt
    obtain ⟨z, hz, _, hw⟩ := DataW.trod_int he hy
    simp only [List.cons.injEq, and_true] at hz
    exact ⟨z, hz, hw⟩
  refine ⟨cs.map (fun | .int _ z => z | _ => 0), by simpa using hl, ?_, ?_⟩
  · rw [List.map_map]
    refine (List.map_id cs).symm.trans (List.map_congr_left fun v hm => ?_)
    obtain ⟨z, rfl, _⟩ := hv v hm
    rfl
  · intro z hz
    obtain ⟨v, hm, rfl⟩ := List.mem_map.1 hz
    obtain ⟨z', rfl, hw⟩ := hv v hm
    exact hw

end

end Go.Proofs.YthpallkphamobaaGreatDoor
namespace Go.Proofs.YthpallkphamobaaGreatDoor
open Go.ChangeShapes Go.WideShapes Go.ChangeAt Go.RowKit

theorem u64_lab {z : Int} (h : (Lit.int .u64 z).wf = true) : ∃ d : BitVec 64, (.int .u64 z : Value) = labV d := by
  simp [Lit.wf, IntKind.min, IntKind.max, IntKind.signed, IntKind.bits] at h
  obtain ⟨a, e⟩ : ∃ a : BitVec 64, z = iv64 a := ⟨BitVec.ofNat 64 z.toNat, by unfold iv64; rw [BitVec.toNat_ofNat, Nat.mod_eq_of_lt (by omega)]; omega⟩
  exact ⟨a, by rw [e]; rfl⟩
section
variable {H : Type} {enc : TypeId × Value → H} {w : World} {base : Nat} {spare : Nat → Bool} {held : Bool} {fuel : Nat} {cs : List Value} {x : DataW H × List MemPlace}
theorem trod_adr (h : DataW.trod enc Tryz.prog w base spare held fuel 29 cs = some x) : ∃ a, Adr a ∧ cs = adrC a := by
  obtain ⟨zs, hl, rfl, hw⟩ := trod_intsA Tryz.underlying29 Tryz.underlying5 (by kernel_rfl) (by kernel_rfl) h
  have hb : ∀ z ∈ zs, 0 ≤ z ∧ z ≤ 255 := fun z hz => by
    have := hw z hz
    simp [Lit.wf, IntKind.min, IntKind.max, IntKind.signed, IntKind.bits] at this
    exact ⟨by omega, by omega⟩
  refine ⟨zs.map Int.toNat, ⟨by rw [List.length_map]; exact hl, fun b hb' => ?_⟩, ?_⟩
  · obtain ⟨z, hz, rfl⟩ := List.mem_map.1 hb'
    have := hb z hz
    omega
  · unfold adrC natI
    rw [List.map_map, List.map_map]
    refine List.map_congr_left fun z hz => ?_
    have := hb z hz
    show Value.int .u8 z = Value.int .u8 ((z.toNat : Nat) : Int)
    congr 1; omega
theorem some_of {α : Type} {l : List α} {i : Nat} {o : Option α} (h : o = l[i]?) (hi : i < l.length) : ∃ y, o = some y := ⟨l[i], by rw [h, List.getElem?_eq_getElem hi]⟩
theorem trod_clear (h : DataW.trod enc Tryz.prog w base spare held fuel 65 cs = some x) : ∃ y : List Nat × BitVec 64, Adr y.1 ∧ cs = clearC y := by
  obtain ⟨xs, n, _, _, hl, hx, hf⟩ := DataW.trod_struct Tryz.underlying65 h
  have hl21 : cs.length = 21 := hl.trans (by kernel_rfl)
  have hx2 : xs.length = 2 := hx
  obtain ⟨y0, e0⟩ : ∃ y, DataW.trod enc Tryz.prog w base spare held n 29 ((cs.drop 0).take (Tryz.prog.cellsOf 29)) = some y := some_of (hf 0 _ rfl) (by omega)
  obtain ⟨y1, e1⟩ : ∃ y, DataW.trod enc Tryz.prog w base spare held n 23 ((cs.drop 20).take (Tryz.prog.cellsOf 23)) = some y := some_of (hf 1 _ rfl) (by omega)
  rw [show Tryz.prog.cellsOf 29 = 20 by kernel_rfl] at e0
  rw [show Tryz.prog.cellsOf 23 = 1 by kernel_rfl] at e1
  obtain ⟨a, ha, ea⟩ := trod_adr e0
  obtain ⟨z, ez, _, hw⟩ := DataW.trod_int Tryz.underlying23 e1
  obtain ⟨d, ed⟩ := u64_lab hw
  refine ⟨(a, d), ha, ?_⟩
  show cs = adrC a ++ [labV d]
  rw [← ed, ← ea, ← ez]
  show cs = (cs.drop 0).take 20 ++ (cs.drop 20).take 1
  rw [List.drop_zero, List.take_of_length_le (l := cs.drop 20) (by rw [List.length_drop]; omega), List.take_append_drop]
theorem trod_rel (h : DataW.trod enc Tryz.prog w base spare held fuel 67 cs = some x) : ∃ y : List Nat × Nat × BitVec 64, (Adr y.1 ∧ y.2.1 < 4294967296) ∧ cs = relC y := by
  obtain ⟨xs, n, _, _, hl, hx, hf⟩ := DataW.trod_struct Tryz.underlying67 h
  have hl22 : cs.length = 22 := hl.trans (by kernel_rfl)
  have hx3 : xs.length = 3 := hx
  obtain ⟨y0, e0⟩ : ∃ y, DataW.trod enc Tryz.prog w base spare held n 29 ((cs.drop 0).take (Tryz.prog.cellsOf 29)) = some y := some_of (hf 0 _ rfl) (by omega)
  obtain ⟨y1, e1⟩ : ∃ y, DataW.trod enc Tryz.prog w base spare held n 30 ((cs.drop 20).take (Tryz.prog.cellsOf 30)) = some y := some_of (hf 1 _ rfl) (by omega)
  obtain ⟨y2, e2⟩ : ∃ y, DataW.trod enc Tryz.prog w base spare held n 23 ((cs.drop 21).take (Tryz.prog.cellsOf 23)) = some y := some_of (hf 2 _ rfl) (by omega)
  rw [show Tryz.prog.cellsOf 29 = 20 by kernel_rfl] at e0
  rw [show Tryz.prog.cellsOf 30 = 1 by kernel_rfl] at e1
  rw [show Tryz.prog.cellsOf 23 = 1 by kernel_rfl] at e2
  obtain ⟨a, ha, ea⟩ := trod_adr e0
  obtain ⟨k, ek, _, hk⟩ := DataW.trod_int Tryz.underlying30 e1
  obtain ⟨z, ez, _, hw⟩ := DataW.trod_int Tryz.underlying23 e2
  obtain ⟨d, ed⟩ := u64_lab hw
  simp [Lit.wf, IntKind.min, IntKind.max, IntKind.signed, IntKind.bits] at hk
  refine ⟨(a, k.toNat, d), ⟨ha, show k.toNat < 4294967296 by omega⟩, ?_⟩
  show cs = adrC a ++ [.int .u32 ((k.toNat : Nat) : Int), labV d]
  rw [show ((k.toNat : Nat) : Int) = k by omega, ← ed, ← ea, show [Value.int .u32 k, Value.int .u64 z] = [Value.int .u32 k] ++ [Value.int .u64 z] from rfl, ← ek, ← ez]
  show cs = (cs.drop 0).take 20 ++ ((cs.drop 20).take 1 ++ (cs.drop 21).take 1)
  rw [List.drop_zero, List.take_of_length_le (l := cs.drop 21) (by rw [List.length_drop]; omega), show cs.drop 21 = (cs.drop 20).drop 1 by rw [List.drop_drop], List.take_append_drop, List.take_append_drop]
/-- A slice of structs. -/
theorem trod_rows {α : Type} {k : Nat} {C : α → List Value} {T E : TypeId} {v : Value} {Ok : α → Prop} (hk : 0 < k) (ht : Tryz.prog.underlying T = some (.slice E)) (hc : Tryz.prog.cellsOf E = k)
    (hE : ∀ (fu : Nat) (cs : List Value) (x : DataW H × List MemPlace), DataW.trod enc Tryz.prog w base spare held fu E cs = some x → ∃ y, Ok y ∧ cs = C y)
    (hCl : ∀ y, Ok y → (C y).length = k)
    (h : DataW.trod enc Tryz.prog w base spare held fuel T [v] = some x) : ∃ a c l, v = .slice a l.length c ∧ RowsAt k C w a c l ∧ ∀ y ∈ l, Ok y := by
  rcases DataW.trod_slice ht h with ⟨e, -⟩ | ⟨a, len, cap, elems, rest, n, _, e, _, hbase, hlc, hcm, hel, helt, -⟩
  · simp only [List.cons.injEq, and_true] at e
    exact ⟨none, 0, [], e, RowsAt.none, fun y hy => by cases hy⟩
  · simp only [List.cons.injEq, and_true] at e
    have hex : ∀ i, i < len → ∃ y, Ok y ∧ w.cells? base (a.add (i * k)) k = some (C y) := fun i hi => by
      have h1 := helt i hi
      rw [hc] at h1
      obtain ⟨z, hz⟩ := some_of h1 (by omega)
      obtain ⟨cells, h2, h3⟩ := Option.bind_eq_some_iff.1 hz
      obtain ⟨y, hy, rfl⟩ := hE _ _ _ h3
      exact ⟨y, hy, h2⟩
    have hls : ∀ m, m ≤ len → ∃ l : List α, l.length = m ∧ (∀ i (hi : i < l.length), Ok l[i] ∧ w.cells? base (a.add (i * k)) k = some (C l[i])) := by
      intro m
      induction m with
      | zero => exact fun _ => ⟨[], rfl, fun i hi => by simp at hi⟩
      | succ m ih =>
        intro hm
        obtain ⟨l, hl, hall⟩ := ih (by omega)
        obtain ⟨y, hy, hc2⟩ := hex m (by omega)
        refine ⟨l ++ [y], by simp [hl], fun i hi => ?_⟩
        rw [List.length_append, List.length_singleton] at hi
        by_cases him : i < l.length
        · rw [List.getElem_append_left him]; exact hall i him
        · obtain rfl : i = l.length := by omega
          rw [List.getElem_append_right (Nat.le_refl _)]
          simp only [Nat.sub_self, List.getElem_cons_zero]
          rw [hl]; exact ⟨hy, hc2⟩
    obtain ⟨l, hl, hall⟩ := hls len (Nat.le_refl _)
    refine ⟨some a, cap, l, by rw [e, hl], ⟨fun i hi => ?_, by simp, ⟨by omega, by unfold maxLen at hcm; exact hcm⟩⟩, fun y hy => ?_⟩
    · obtain ⟨hok, hcells⟩ := hall i hi
      have hcl := hCl _ hok
      obtain ⟨-, -, hcell⟩ := World.cells?_some hcells
      obtain ⟨b, o, s⟩ := a
      have h00 : ∃ u, w.cell? (⟨b, o, s⟩ : Addr) = some u := by
        obtain ⟨hok0, hc0⟩ := hall 0 (by omega)
        obtain ⟨-, -, hcell0⟩ := World.cells?_some hc0
        have := hcell0 0 hk
        rw [List.getElem?_eq_getElem (by rw [hCl _ hok0]; exact hk)] at this
        exact ⟨_, by simpa [Addr.add] using this⟩
      have hs : s = none := by
        obtain ⟨u, hu⟩ := h00
        exact World.cell?_spot hu
      subst hs
      refine ⟨b, o, rfl, fun j u hj => ?_⟩
      have hjk : j < k := by rw [← hcl]; exact (List.getElem?_eq_some_iff.1 hj).1
      have := hcell j hjk
      rw [Addr.add_lit, Addr.add_lit] at this
      rw [this]; exact hj
    · obtain ⟨i, hi, rfl⟩ := List.getElem_of_mem hy
      exact (hall i hi).1
set_option maxRecDepth 100000 in
/-- A policy. -/
theorem open_pol {v : Value} {d : DataW H} {p : List MemPlace} (h : DataW.Trod enc Tryz.prog w base spare held 27 v d p) : ∃ q a c b e, v = polV q a c b e ∧ PolAt w q a c b e := by
  obtain ⟨fuel, hf⟩ := h
  obtain ⟨xs, n, _, _, hl, hx, hfd⟩ := DataW.trod_struct Tryz.underlying27 hf
  have hl3 : v.cells.toList.length = 3 := hl.trans (by kernel_rfl)
  have hx3 : xs.length = 3 := hx
  obtain ⟨y0, e0⟩ : ∃ y, DataW.trod enc Tryz.prog w base spare held n 23 ((v.cells.toList.drop 0).take (Tryz.prog.cellsOf 23)) = some y := some_of (hfd 0 _ rfl) (by omega)
  obtain ⟨y1, e1⟩ : ∃ y, DataW.trod enc Tryz.prog w base spare held n 24 ((v.cells.toList.drop 1).take (Tryz.prog.cellsOf 24)) = some y := some_of (hfd 1 _ rfl) (by omega)
  obtain ⟨y2, e2⟩ : ∃ y, DataW.trod enc Tryz.prog w base spare held n 25 ((v.cells.toList.drop 2).take (Tryz.prog.cellsOf 25)) = some y := some_of (hfd 2 _ rfl) (by omega)
  rw [show Tryz.prog.cellsOf 23 = 1 by kernel_rfl] at e0
  rw [show Tryz.prog.cellsOf 24 = 1 by kernel_rfl] at e1
  rw [show Tryz.prog.cellsOf 25 = 1 by kernel_rfl] at e2
  obtain ⟨cs, rfl⟩ : ∃ cs, v = .agg cs := by
    cases v with
    | agg cs => exact ⟨cs, rfl⟩
    | _ => simp [Value.cells] at hl3
  obtain ⟨l⟩ := cs
  match l, hl3 with
  | [v0, v1, v2], _ =>
    obtain ⟨z, ez, _, hw⟩ := DataW.trod_int Tryz.underlying23 e0
    have ez : v0 = .int .u64 z := by
      have : [v0] = [Value.int .u64 z] := ez
      exact List.head_eq_of_cons_eq this
    obtain ⟨dd, ed⟩ := u64_lab hw
    obtain ⟨a, c, lc, ec, hC, hCo⟩ := trod_rows (Ok := fun y => Adr y.1) (C := clearC) (v := v1) (by decide : 0 < 21) Tryz.underlying24 (by kernel_rfl) (fun fu cs x h => trod_clear h) (fun y hy => clearC_len hy) e1
    obtain ⟨b, e, lr, er, hR, hRo⟩ := trod_rows (Ok := fun y => Adr y.1 ∧ y.2.1 < 4294967296) (C := relC) (v := v2) (by decide : 0 < 22) Tryz.underlying25 (by kernel_rfl) (fun fu cs x h => trod_rel h) (fun y hy => relC_len hy.1) e2
    refine ⟨⟨dd, lc, lr⟩, a, c, b, e, ?_, hC, hR, ⟨fun y hy => ⟨(hCo y hy).len, (hCo y hy).ok⟩, fun y hy => ⟨⟨(hRo y hy).1.len, (hRo y hy).1.ok⟩, (hRo y hy).2⟩⟩⟩
    rw [ez, ed, ec, er]
    rfl
end
end Go.Proofs.YthpallkphamobaaGreatDoor
namespace Go.Proofs.YthpallkphamobaaGreatDoor
open Go.RowKit Go.Shelf

set_option maxRecDepth 100000 in
set_option maxHeartbeats 4000000 in
theorem few_any (x : BitVec 64) (a b : Option Addr) (n c m d k : Nat) (w : World) : Calls Tryz.prog 9 #[.agg #[labV x, .slice a n c, .slice b m d], .int .i64 k] w fun e w' => e = .returned (.bool (decide (n ≤ k ∧ m ≤ k))) ∧ Below w.heap.size w w' := by
  have hb : Below w.heap.size w (w.alloc (.cells #[labV x, .slice a n c, .slice b m d] 27)) := xalloc (xrefl w) _
  have hP : BlkG (w.alloc (.cells #[labV x, .slice a n c, .slice b m d] 27)) w.heap.size 27 [labV x, .slice a n c, .slice b m d] := BlkG.new w _ _
  have c1 := hP.cell 1 (by simp)
  have c2 := hP.cell 2 (by simp)
  simp only [List.getElem_cons_succ, List.getElem_cons_zero] at c1 c2
  replace hb := Lib.hid hb
  clear hP
  by_cases h1 : n ≤ k
  · have h1I : (n : Int) ≤ k := by omega
    by_cases h2 : m ≤ k
    · have h2I : (m : Int) ≤ k := by omega
      rw [decide_eq_true (⟨h1, h2⟩ : n ≤ k ∧ m ≤ k)]
      go_enter Tryz.func9, Tryz.ntmps9
      go_wp2
      go_ret
      exact ⟨rfl, hb.out⟩
    · have h2I : ¬ (m : Int) ≤ k := by omega
      rw [decide_eq_false (fun h => h2 h.2 : ¬ (n ≤ k ∧ m ≤ k))]
      go_enter Tryz.func9, Tryz.ntmps9
      go_wp2
      go_ret
      exact ⟨rfl, hb.out⟩
  · have h1I : ¬ (n : Int) ≤ k := by omega
    rw [decide_eq_false (fun h => h1 h.1 : ¬ (n ≤ k ∧ m ≤ k))]
    go_enter Tryz.func9, Tryz.ntmps9
    go_wp2
    go_ret
    exact ⟨rfl, hb.out⟩
end Go.Proofs.YthpallkphamobaaGreatDoor
namespace Go.Proofs.YthpallkphamobaaGreatDoor
open Go.RowKit Go.Shelf

theorem decN_len (n : Nat) (h : n < 4294967296) : (Lib.decDigits n).length ≤ 20 := by
  rw [Lib.decDigits_length]
  by_cases h0 : 1 ≤ n
  · have := Lib.numDigits_eq n h0 (by omega); split at this <;> omega
  · rw [show n = 0 by omega, Lib.nDigits_small (by decide)]; decide
set_option maxRecDepth 100000 in
theorem refNumberG_any (n : Nat) (w : World) (hn : n < 4294967296) : Calls Tryz.prog 66 #[.int .u64 n] w fun e w' => e = .returned (.string ⟨(Lib.decDigits n).toArray⟩) ∧ Below w.heap.size w w' := by
  go_enter Tryz.func66, Tryz.ntmps66
  go_wp2
  go_loopw [0, 3] (fun x s wx => ∃ (m : Nat) (t : List UInt8), m < 4294967296 ∧ t.length ≤ 100 ∧ x = .int .u64 m ∧ s = .string ⟨t.toArray⟩ ∧ Hid (Lib.decDigits m ++ t = Lib.decDigits n) ∧ Below w.heap.size w wx) (fun x _ _ => (intOf x).toNat)
  case atStart => exact ⟨n, [], hn, by simp, rfl, rfl, Lib.hid (by simp), xrefl w⟩
  case round =>
    obtain ⟨m, t, hm, htl, rfl, rfl, hd, hb⟩ := hrel
    obtain ⟨d, hd1⟩ : ∃ d, d = m % 10 := ⟨_, rfl⟩
    obtain ⟨q, hq1⟩ : ∃ q, q = m / 10 := ⟨_, rfl⟩
    have hd2 : (m : Int) % 10 = (d : Int) := by omega
    have hq2 : (m : Int) / 10 = (q : Int) := by omega
    have hd10 : d < 10 := by omega
    have hcv := chr_conv d hd10 wr
    have hsc := str_cons (UInt8.ofNat (48 + d)) t
    have e1 : IntKind.u8.wrap (48 + (d : Int)) = 48 + (d : Int) := by rw [IntKind.wrap_u8]; omega
    obtain ⟨cc, hcc⟩ : ∃ c, c = UInt8.ofNat (48 + d) := ⟨_, rfl⟩
    rw [← hcc] at hsc hcv
    replace hsc := Lib.hid hsc
    by_cases h10 : m < 10
    · have hdm : d = m := by omega
      have hq0 : (m : Int) / 10 = 0 := by omega
      clear hq2
      have hfin : Hid (cc :: t = Lib.decDigits n) := Lib.hid (by rw [← hd.out, dec_lo m h10, hcc, hdm]; rfl)
      replace hcc := Lib.hid hcc
      replace hd1 := Lib.hid hd1
      replace hq1 := Lib.hid hq1
      replace hdm := Lib.hid hdm
      go_wp2
      go_ret
      refine ⟨?_, xalloc hb _⟩
      exact congrArg Ending.returned (congrArg Value.string (hsc.out.trans (by rw [hfin.out])))
    · have hq0 : ¬ (q : Int) = 0 := by omega
      have hfin : Hid (Lib.decDigits q ++ (cc :: t) = Lib.decDigits n) := Lib.hid (by
        rw [← hd.out, Lib.decDigits.eq_def m, dif_neg h10, ← hq1, ← hd1, hcc]
        simp)
      have hq100 : q < 4294967296 := by omega
      have htl2 : (cc :: t).length ≤ 100 := by have h1 := congrArg List.length hfin.out; have h2 := decN_len n hn; rw [List.length_append] at h1; omega
      replace hcc := Lib.hid hcc
      replace hd1 := Lib.hid hd1
      replace hq1 := Lib.hid hq1
      go_wp2
      refine ⟨⟨q, cc :: t, hq100, htl2, rfl, ?_, hfin, xalloc hb _⟩, by simp [intOf]; omega⟩
      exact congrArg Value.string hsc.out

end Go.Proofs.YthpallkphamobaaGreatDoor
