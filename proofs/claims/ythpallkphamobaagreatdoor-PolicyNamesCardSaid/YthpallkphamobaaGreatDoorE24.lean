/- Texts of this claim, merged; no condition. -/
import Derived.Test.YthpallkphamobaaGreatDoorE20
import Derived.Test.YthpallkphamobaaGreatDoorE02
import Derived.Test.YthpallkphamobaaGreatDoorE01
import Derived.Test.YthpallkphamobaaGreatDoorE23
import Derived.Test.YthpallkphamobaaGreatDoorRows
import Derived.Handed
import Derived.Shelf.Vars
import Derived.ProofKit
import Derived.Lib.LaidTab
import Derived.LaidMore
import Derived.LaidLaws
import Derived.Stop.LaidErr
import Derived.Test.YthpallkphamobaaGreatDoorE14
import Derived.OpenShut
import Derived.ShutString
import Derived.ChangeOld
import Derived.Below
set_option linter.all false
namespace Go.Proofs.YthpallkphamobaaGreatDoor
open Go.RowKit

theorem cmp_lt (A B m : Nat) (hA : A < 2 ^ 256) (hB : B < 2 ^ 256) (hm : m < 4) (he : ∀ j, m < j → j < 4 → limb A j = limb B j) (h : limb A m < limb B m) : A < B := by
  have h1 := val_limbs A hA
  have h2 := val_limbs B hB
  have a0 := limb_lt A 0
  have a1 := limb_lt A 1
  have a2 := limb_lt A 2
  have b0 := limb_lt B 0
  have b1 := limb_lt B 1
  have b2 := limb_lt B 2
  match m, hm with
  | 0, _ => have := he 1 (by omega) (by omega); have := he 2 (by omega) (by omega); have := he 3 (by omega) (by omega); omega
  | 1, _ => have := he 2 (by omega) (by omega); have := he 3 (by omega) (by omega); omega
  | 2, _ => have := he 3 (by omega) (by omega); omega
  | 3, _ => omega
theorem cmp_eq (A B : Nat) (hA : A < 2 ^ 256) (hB : B < 2 ^ 256) (he : ∀ j, 0 ≤ j → j < 4 → limb A j = limb B j) : A = B := by
  have h1 := val_limbs A hA
  have h2 := val_limbs B hB
  have := he 0 (by omega) (by omega); have := he 1 (by omega) (by omega); have := he 2 (by omega) (by omega); have := he 3 (by omega) (by omega)
  omega
def orderOf (A B : Nat) : Int := if A < B then -1 else if B < A then 1 else 0
theorem orderOf_lt {A B : Nat} (h : A < B) : orderOf A B = -1 := by unfold orderOf; rw [if_pos h]
theorem orderOf_gt {A B : Nat} (h : B < A) : orderOf A B = 1 := by unfold orderOf; rw [if_neg (by omega), if_pos h]
theorem orderOf_eq {A B : Nat} (h : A = B) : orderOf A B = 0 := by unfold orderOf; rw [if_neg (by omega), if_neg (by omega)]

theorem refOrdW_any (A B : Nat) (w : World) (hA2 : A < 2 ^ 256) (hB2 : B < 2 ^ 256) :
    Calls Tryz.prog 28 #[wordV A, wordV B] w fun e w' => e = .returned (.int .i64 (orderOf A B)) ∧ Below w.heap.size w w' := by
  unfold wordV
  go_enter Tryz.func28, Tryz.ntmps28
  have HA2 := Lib.hid hA2
  have HB2 := Lib.hid hB2
  clear hA2 hB2
  go_wp2
  go_loopw [5] (fun i wx => ∃ m : Nat, m ≤ 4 ∧ i = .int .i64 ((m : Int) - 1) ∧ (∀ j, m ≤ j → j < 4 → limb A j = limb B j) ∧ Blk .u64 wx w.heap.size 43 (wordL A) ∧ Blk .u64 wx (w.heap.size + 1) 43 (wordL B) ∧ Below w.heap.size w wx) (fun i _ => (intOf i + 1).toNat)
  case atStart => exact ⟨4, by omega, rfl, by omega, (Blk.new w _ (wordL A)).alloc _, Blk.new' _ _ _ (wordL B) (by simp), xalloc (xalloc (xrefl _) _) _⟩
  case round =>
    obtain ⟨m, hm, rfl, he, hA, hB, hb⟩ := hrel
    rcases m with _ | m
    · have Hab := Lib.hid (orderOf_eq (cmp_eq A B HA2.out HB2.out he))
      clear he
      go_wp2
      go_ret
      rw [Hab.out]
      exact ⟨rfl, hb⟩
    · have e1 : (((m + 1 : Nat) : Int) - 1) = (m : Int) := by omega
      rw [e1]
      have hca := hA.cell m (by show m < 4; omega)
      rw [wordL_get] at hca
      have hcb := hB.cell m (by show m < 4; omega)
      rw [wordL_get] at hcb
      have Hlt := Lib.hid (fun h => orderOf_lt (cmp_lt A B m HA2.out HB2.out (by omega) (fun j h1 h2 => he j (by omega) h2) h))
      have Hgt := Lib.hid (fun h => orderOf_gt (cmp_lt B A m HB2.out HA2.out (by omega) (fun j h1 h2 => (he j (by omega) h2).symm) h))
      have He := Lib.hid he
      have hsucc : limb A m = limb B m → ∀ j, m ≤ j → j < 4 → limb A j = limb B j := by
        intro h j h1 h2
        rcases Nat.lt_or_ge m j with h3 | h3
        · exact he j (by omega) h2
        · have : j = m := by omega
          subst this; exact h
      have Hsucc := Lib.hid hsucc
      clear he hsucc e1
      have hx := limb_lt A m
      have hy := limb_lt B m
      generalize limb A m = x at hca hx Hlt Hgt Hsucc
      generalize limb B m = y at hcb hy Hlt Hgt Hsucc
      rcases Nat.lt_trichotomy x y with h1 | h1 | h1
      · clear Hgt Hsucc
        go_wp2_with fail
        go_region
        go_wp2
        go_ret
        rw [Hlt.out h1]
        exact ⟨rfl, xdrew hb⟩
      · subst h1
        clear Hlt Hgt
        go_wp2_with fail
        go_region
        go_wp2_with fail
        go_region
        go_wp2
        refine ⟨⟨m, by omega, rfl, Hsucc.out (by trivial), hA, hB, xdrew (xdrew hb)⟩, by simp [intOf]⟩
      · have h2 : ¬ x < y := by omega
        clear Hlt Hsucc
        go_wp2_with fail
        go_region
        go_wp2_with fail
        go_region
        go_wp2
        go_ret
        rw [Hgt.out h1]
        exact ⟨rfl, xdrew (xdrew hb)⟩

end Go.Proofs.YthpallkphamobaaGreatDoor
namespace Go.Proofs.YthpallkphamobaaGreatDoor
open Go.RowKit Go.Shelf

theorem fold_num : ∀ (l : List Nat) (a : Nat), l.foldl (fun a b => a * 256 + b) a = a * 256 ^ l.length + l.foldl (fun a b => a * 256 + b) 0
  | [], a => by simp
  | b :: l, a => by
    rw [List.foldl_cons, List.foldl_cons, fold_num l (a * 256 + b), fold_num l (0 * 256 + b), List.length_cons, Nat.pow_succ, Nat.add_mul, Nat.zero_mul, Nat.zero_add, Nat.mul_assoc, Nat.mul_comm 256, Nat.add_assoc]
theorem numN_cons (x : Nat) (l : List Nat) : numN (x :: l) = x * 256 ^ l.length + numN l := by
  unfold numN
  rw [List.foldl_cons, fold_num]
  simp
theorem ord_num : ∀ (a b : List Nat), a.length = b.length → (∀ x ∈ a, x < 256) → (∀ x ∈ b, x < 256) → ordA a b = orderOf (numN a) (numN b)
  | [], [], _, _, _ => by show (0 : Int) = _; rw [orderOf_eq rfl]
  | x :: r, y :: s, hl, ha, hb => by
    have hl' : r.length = s.length := by simpa using hl
    have hr := numN_lt r fun z hz => ha z (by simp [hz])
    have hs := numN_lt s fun z hz => hb z (by simp [hz])
    have ih := ord_num r s hl' (fun z hz => ha z (by simp [hz])) (fun z hz => hb z (by simp [hz]))
    rw [ordA, numN_cons, numN_cons]
    rw [← hl'] at hs ⊢
    generalize 256 ^ r.length = K at *
    by_cases h1 : x < y
    · rw [if_pos h1]
      have : (x + 1) * K ≤ y * K := Nat.mul_le_mul_right _ h1
      rw [Nat.add_mul] at this
      rw [orderOf_lt (by omega)]
    · rw [if_neg h1]
      by_cases h2 : y < x
      · rw [if_pos h2]
        have : (y + 1) * K ≤ x * K := Nat.mul_le_mul_right _ h2
        rw [Nat.add_mul] at this
        rw [orderOf_gt (by omega)]
      · rw [if_neg h2, ih]
        obtain rfl : x = y := by omega
        unfold orderOf
        simp only [Nat.add_lt_add_iff_left]
  | [], _ :: _, hl, _, _ => by simp at hl
  | _ :: _, [], hl, _, _ => by simp at hl
theorem of_num {a : List Nat} (h : Adr a) : ofN (numN a) = a := by
  apply List.ext_getElem
  · rw [ofN_len, h.len]
  · intro k h1 h2
    rw [ofN_get _ k (by rw [ofN_len] at h1; exact h1)]
    have := numN_at a h.ok k h2
    rw [h.len] at this
    rw [show 19 - k = 20 - 1 - k by omega]
    exact this
theorem num_256 {a : List Nat} (h : Adr a) : numN a < 2 ^ 256 := by
  have := numN_lt a h.ok
  rw [h.len] at this
  exact Nat.lt_of_lt_of_le this (by decide)
/-- Two words compared, in a region. -/
theorem exec_eqlW {o : Oper} {ac : Act} {w : World} (x y : Operand) (ho : o.op = .binOp .eql 43 x y 43) (N : Nat) (hx : ac.eval x = .agg ((wordL N).map (Value.int .u64)).toArray) (hy : ac.eval y = .agg ((wordL N).map (Value.int .u64)).toArray) : (execOp ac.eval o).run Tryz.prog w = .ok (.value (.bool true)) w := by
  have h := run_eql_at (P := Tryz.prog) (w := w) 43 43 x y ho 22 4 .u64 .u64 (wordL N) (wordL N) hx hy Tryz.underlying43 Tryz.underlying22 (by kernel_rfl) (by kernel_rfl) (by kernel_rfl) rfl rfl
  rw [h, decide_eq_true rfl]
/-- 40 numbers are two addresses. -/
theorem two_adr (zs : List Int) (hl : zs.length = 40) (hw : ∀ z ∈ zs, (Lit.int .u8 z).wf = true) : ∃ a b, Adr a ∧ Adr b ∧ zs.map (Value.int .u8) = adrC a ++ adrC b := by
  have hb : ∀ z ∈ zs, 0 ≤ z ∧ z ≤ 255 := fun z hz => by
    have := hw z hz
    simp [Lit.wf, IntKind.min, IntKind.max, IntKind.signed, IntKind.bits] at this
    exact ⟨by omega, by omega⟩
  have hn : ∀ l : List Int, (∀ z ∈ l, z ∈ zs) → natI (l.map Int.toNat) = l := fun l hl => by
    unfold natI
    rw [List.map_map]
    refine (List.map_congr_left fun z hz => ?_).trans (List.map_id l)
    have := hb z (hl z hz)
    show ((z.toNat : Nat) : Int) = z
    omega
  refine ⟨(zs.take 20).map Int.toNat, (zs.drop 20).map Int.toNat, ⟨by rw [List.length_map, List.length_take]; omega, fun b hb' => ?_⟩, ⟨by rw [List.length_map, List.length_drop]; omega, fun b hb' => ?_⟩, ?_⟩
  · obtain ⟨z, hz, rfl⟩ := List.mem_map.1 hb'
    have := hb z (List.mem_of_mem_take hz)
    omega
  · obtain ⟨z, hz, rfl⟩ := List.mem_map.1 hb'
    have := hb z (List.mem_of_mem_drop hz)
    omega
  · unfold adrC
    rw [hn _ fun z hz => List.mem_of_mem_take hz, hn _ fun z hz => List.mem_of_mem_drop hz, ← List.map_append, List.take_append_drop]
/-- Four numbers are a word. -/
theorem four_word (zs : List Int) (hl : zs.length = 4) (hw : ∀ z ∈ zs, (Lit.int .u64 z).wf = true) : ∃ M, (.agg (zs.map (Value.int .u64)).toArray : Value) = wordV M := by
  have hb : ∀ z ∈ zs, 0 ≤ z ∧ z < 18446744073709551616 := fun z hz => by
    have := hw z hz
    simp [Lit.wf, IntKind.min, IntKind.max, IntKind.signed, IntKind.bits] at this
    exact ⟨by omega, by omega⟩
  match zs, hl with
  | [x, y, z, u], _ =>
    have h1 := hb x (by simp)
    have h2 := hb y (by simp)
    have h3 := hb z (by simp)
    have h4 := hb u (by simp)
    obtain ⟨e1, e2, e3, e4⟩ := limb_of x.toNat y.toNat z.toNat u.toNat (by omega) (by omega) (by omega) (by omega)
    refine ⟨x.toNat + y.toNat * 2 ^ 64 + z.toNat * 2 ^ 128 + u.toNat * 2 ^ 192, ?_⟩
    unfold wordV
    rw [e1, e2, e3, e4]
    have f : ∀ t : Int, 0 ≤ t → ((t.toNat : Nat) : Int) = t := fun t h => by omega
    rw [f x h1.1, f y h2.1, f z h3.1, f u h4.1]
    rfl
end Go.Proofs.YthpallkphamobaaGreatDoor
namespace Go.Proofs.YthpallkphamobaaGreatDoor
open Go.RowKit

theorem handed_and_shaped {H : Type} {enc : TypeId × Value → H} {a : Assume} {C : Checked} {os : Os} {f : FuncId} {fn : Func} {s : ChangeSpec} {conds : List PathCond} {apart fresh handsOn again : Bool} {X : World → Array Value → Prop}
    (hX : ∀ (w w' : World) (args : Array Value), w.heap = w'.heap → X w args → X w' args)
    (own : ownKnob C.prog.godebug = none) (started : os.Started) (noInit : C.prog.inits.idxOf? f = none) (hfn : C.prog.funcs[f]? = some fn)
    (witness : ∃ (w : World) (tape : Tape) (i : Input), w.os = os ∧ (w.forCall tape i).Shaped C.prog ∧ i.vars = [] ∧ Input.okWide C.prog (w.forCall tape i) .any w.heap.size f i ∧
      ((s.pre enc C.prog fn conds apart (w.forCall tape i).memory i.args ∧ X (w.forCall tape i).memory i.args) ∧ sizedMet enc C.prog fn (OpenSpec.ofChange s) apart (w.forCall tape i).memory i.args) ∧ a.holds C.prog (lone (Frame.enter C.prog f i.args .normal) [] (w.forCall tape i)))
    (walk : ∀ (W : World) (base : Nat) (args : Array Value) (ds gs : List (DataW H)) (before : List MemPlace),
      (∀ (j : Nat) t v, fn.params[j]? = some t → args[j]? = some v → Value.okWide C.prog W .any base t v) →
      DataW.Whole enc C.prog fn.params.toList s.vars apart W args.toList ds gs before →
      X W args → W.ShapedOpen C.prog →
      Calls C.prog f args W fun e W' => ∃ v, e = .returned v ∧ s.post enc C.prog fn apart fresh handsOn again W args v W') :
    ReturnsInHanded a C os f .any (fun w args => (s.pre enc C.prog fn conds apart w args ∧ X w args) ∧ sizedMet enc C.prog fn (OpenSpec.ofChange s) apart w args) (s.post enc C.prog fn apart fresh handsOn again) := by
  refine returnsInHanded_of_calls own started noInit witness fun w tape i _ hsh _ hok hpre _ => ?_
  obtain ⟨_, _, _, fn2, hfn2, _, _, _, _, hval⟩ := hok
  obtain rfl : fn2 = fn := Option.some.inj (hfn2.symm.trans hfn)
  obtain ⟨⟨⟨ds, gs, before, hw, -⟩, hx⟩, -⟩ := hpre
  refine (walk (w.forCall tape i) w.heap.size i.args ds gs before hval (DataW.Whole.of_heap (w' := w.forCall tape i) (by rfl) hw) (hX _ _ _ (by rfl) hx) hsh).mono fun e W' h => ?_
  obtain ⟨v, rfl, hp⟩ := h
  exact ChangeSpec.post_blind hp
theorem gT64 : Tryz.prog.globalNamed "math/bits.deBruijn64tab" = some gtab := by kernel_rfl
theorem gT64T : (Tryz.prog.globals[gtab]?).map (·.type) = some 199 := by kernel_rfl
theorem gT10 : Tryz.prog.globalNamed "internal/strconv.uint64pow10" = some 4 := by kernel_rfl
theorem gT10T : (Tryz.prog.globals[4]?).map (·.type) = some 203 := by kernel_rfl
theorem gTS : Tryz.prog.globalNamed "strconv.ErrSyntax" = some 5 := by kernel_rfl
theorem gTST : (Tryz.prog.globals[5]?).map (·.type) = some 97 := by kernel_rfl
theorem gTR : Tryz.prog.globalNamed "strconv.ErrRange" = some 6 := by kernel_rfl
theorem gTRT : (Tryz.prog.globals[6]?).map (·.type) = some 97 := by kernel_rfl
theorem starE : "*" ++ "errors.errorString" = "*errors.errorString" := by decide
theorem rowE (u : TypeId) (h : Tryz.prog.typeName? 3 u = some "*errors.errorString") : u = 218 :=
  typeName_ptr_named (nm := "errors.errorString") (by rw [starE]; kernel_rfl) (by kernel_rfl) (by decide) u (by rw [starE]; exact h)
def tabZs : List Int := Lib.deBruijn64tab.map fun n : Nat => (n : Int)
theorem var_heap {W W' : World} {P : Program} {n : String} {g : Nat} (hg : P.globalNamed n = some g) (h : W'.heap[g]? = W.heap[g]?) : W'.var? P n = W.var? P n := by
  unfold World.var?
  simp only [hg, Option.bind_some, h]
theorem tabP_of {W : World} (h : laidMetH Tryz.prog Rows.policyNamesRow.laid W) (hsh : W.ShapedOpen Tryz.prog) : TabP W := by
  rw [MakeChecks.laidMetH_plain _ _ _ (by kernel_rfl)] at h
  have h64 := laidMet.tail h
  have h10 := laidMet.tail h64
  have hR := laidMet.tail (laidMet.tail h10)
  have hS := laidMet.tail hR
  have hT : Lib.TabIs Tryz.prog W "math/bits.deBruijn64tab" .u8 tabZs := Lib.tabIs_of_head gT64 gT64T Tryz.underlying199 Tryz.underlying5 (by kernel_rfl) (by kernel_rfl) h64
  have hP : Lib.TabIs Tryz.prog W "internal/strconv.uint64pow10" .u64 Lib.pow10Tab := Lib.tabIs_of_head gT10 gT10T Tryz.underlying203 Tryz.underlying22 (by kernel_rfl) (by kernel_rfl) h10
  obtain ⟨aR, _, hvR, -⟩ := laid_sentinel hR gTR gTRT Tryz.underlying97 rowE Tryz.underlying218 Tryz.underlying220 rfl rfl Tryz.underlying9 (by kernel_rfl) (by kernel_rfl)
  obtain ⟨aS, _, hvS, -⟩ := laid_sentinel hS gTS gTST Tryz.underlying97 rowE Tryz.underlying218 Tryz.underlying220 rfl rfl Tryz.underlying9 (by kernel_rfl) (by kernel_rfl)
  have c7 : ∃ v, W.cell? ⟨7, 0, none⟩ = some v := by
    obtain ⟨g, hg, hc⟩ : ∃ g, Tryz.prog.globalNamed "math/bits.deBruijn32tab" = some g ∧ g = 7 := ⟨7, by kernel_rfl, rfl⟩
    subst hc
    have hT32 : Lib.TabIs Tryz.prog W "math/bits.deBruijn32tab" .u8 (Lib.deBruijn32tab.map fun n : Nat => (n : Int)) := Lib.tabIs_of_head hg (t := 108) (by kernel_rfl) Tryz.underlying108 Tryz.underlying5 (by kernel_rfl) (by kernel_rfl) h
    exact ⟨_, hT32.cell hg 0 (by rw [List.length_map]; decide)⟩
  refine ⟨fun j hj => ?_, cell_of_shapedOpen_int (t := 3) (zero := #[.int .i64 0]) hsh (of_decide_eq_true (by kernel_rfl)) (by kernel_rfl) rfl (by kernel_rfl) (by kernel_rfl) Tryz.underlying3, ?_, fun W' e => ?_, ?_, ?_⟩
  · have := hT.cell gT64 j (by unfold tabZs; rw [List.length_map]; exact hj)
    rw [this]
    unfold tabZs
    simp [hj]
  · obtain ⟨v, hv⟩ := c7
    have := cell_lt hv
    exact this
  · unfold Lib.TabIs
    rw [var_heap gT10 e]
    exact hP
  · exact ⟨_, _, by simpa using World.var?_cell gTS hvS 0⟩
  · exact ⟨_, _, by simpa using World.var?_cell gTR hvR 0⟩
end Go.Proofs.YthpallkphamobaaGreatDoor
namespace Go.Proofs.YthpallkphamobaaGreatDoor
open Go.ChangeShapes Go.WideShapes Go.ChangeAt Go.RowKit
open Go.ChangeMaps (open_string shut_string)

/-- What became of the walk of a law: true, and nothing that was there has turned. -/
def Yes (w : World) (e : Ending) (w' : World) : Prop := e = .returned (.bool true) ∧ Below w.heap.size w w'

section
variable {H : Type} {enc : TypeId × Value → H} {P : Program} {w : World} {base : Nat} {spare : Nat → Bool} {held : Bool} {t e : TypeId} {fuel : Nat} {cs : List Value} {x : DataW H × List MemPlace}

/-- An array whose elements are of one cell each: cell by cell. -/
theorem trod_arr1 {n : Nat} (ht : P.underlying t = some (.array n e)) (hc : P.cellsOf e = 1) (hct : P.cellsOf t = n) (h : DataW.trod enc P w base spare held fuel t cs = some x) :
    cs.length = n ∧ ∀ i (hi : i < cs.length), ∃ m y, DataW.trod enc P w base spare held m e [cs[i]] = some y := by
  obtain ⟨xs, m, _, _, hl, hx, hi⟩ := DataW.trod_array ht h
  have hl' : cs.length = n := hl.trans hct
  refine ⟨hl', fun i hlt => ?_⟩
  have := hi i (by omega)
  rw [hc, Nat.mul_one, List.drop_eq_getElem_cons hlt, List.take_succ_cons, List.take_zero, List.getElem?_eq_getElem (by omega)] at this
  exact ⟨m, _, this⟩

theorem trod_intsA {n : Nat} {q : IntKind} (ht : P.underlying t = some (.array n e)) (he : P.underlying e = some (.int q)) (hc : P.cellsOf e = 1) (hct : P.cellsOf t = n) (h : DataW.trod enc P w base spare held fuel t cs = some x) :
    ∃ zs : List Int, zs.length = n ∧ cs = zs.map (Value.int q) ∧ ∀ z ∈ zs, (Lit.int q z).wf = true := by
  obtain ⟨hl, hi⟩ := trod_arr1 ht hc hct h
  have hv : ∀ v ∈ cs, ∃ z, v = .int q z ∧ (Lit.int q z).wf = true := fun v hv => by
    obtain ⟨i, hlt, rfl⟩ := List.getElem_of_mem hv
    obtain ⟨m, y, hy⟩ := hi i hlt
    obtain ⟨z, hz, _, hw⟩ := DataW.trod_int he hy
    simp only [List.cons.injEq, and_true] at hz
    exact ⟨z, hz, hw⟩
  refine ⟨cs.map (fun | .int _ z => z | _ => 0), by simpa using hl, ?_, ?_⟩
  · rw [List.map_map]
    refine (List.map_id cs).symm.trans (List.map_congr_left fun v hm => ?_)
    obtain ⟨z, rfl, _⟩ := hv v hm
    rfl
  · intro z hz
    obtain ⟨v, hm, rfl⟩ := List.mem_map.1 hz
    obtain ⟨z', rfl, hw⟩ := hv v hm
    exact hw

end

/-- What a reading says of the cells, where the type has more than one cell. -/
theorem agg_of_trod {H : Type} {enc : TypeId × Value → H} {P : Program} {w : World} {base : Nat} {spare : Nat → Bool} {held : Bool} {t : TypeId} {v : Value} {d : DataW H} {p : List MemPlace} (h : DataW.Trod enc P w base spare held t v d p)
    {n : Nat} {e : TypeId} (ht : P.underlying t = some (.array n e)) (hc : P.cellsOf e = 1) (hct : P.cellsOf t = n) (hn : n ≠ 1) : ∃ cs : Array Value, v = .agg cs ∧ ∃ fuel x, DataW.trod enc P w base spare held fuel t cs.toList = some x := by
  obtain ⟨fuel, hf⟩ := h
  cases v with
  | agg cs => exact ⟨cs, rfl, fuel, _, hf⟩
  | _ => exact absurd (trod_arr1 ht hc hct hf).1 (by simpa [Value.cells] using fun h => hn h.symm)

end Go.Proofs.YthpallkphamobaaGreatDoor
namespace Go.Proofs.YthpallkphamobaaGreatDoor
open Go.ChangeShapes Go.WideShapes Go.ChangeAt Go.RowKit

section
variable {H : Type} {enc : TypeId × Value → H} {P : Program} {w : World} {base : Nat} {spare : Nat → Bool} {held : Bool} {t s e : TypeId} {fuel : Nat} {cs : List Value} {x : DataW H × List MemPlace}

/-- An array of arrays of integers: cell by cell. -/
theorem trod_ints2 {m n : Nat} {q : IntKind} (ht : P.underlying t = some (.array m s)) (hs : P.underlying s = some (.array n e)) (he : P.underlying e = some (.int q)) (hc : P.cellsOf e = 1) (hcs : P.cellsOf s = n) (hct : P.cellsOf t = m * n)
    (h : DataW.trod enc P w base spare held fuel t cs = some x) : ∃ zs : List Int, zs.length = m * n ∧ cs = zs.map (Value.int q) ∧ ∀ z ∈ zs, (Lit.int q z).wf = true := by
  obtain ⟨xs, fu, _, _, hl, hx, hi⟩ := DataW.trod_array ht h
  have hl' : cs.length = m * n := hl.trans hct
  have hv : ∀ v ∈ cs, ∃ z, v = .int q z ∧ (Lit.int q z).wf = true := fun v hv => by
    obtain ⟨k, hlt, rfl⟩ := List.getElem_of_mem hv
    have hn : 0 < n := Nat.pos_of_ne_zero (by rintro rfl; omega)
    have hq : k / n < m := (Nat.div_lt_iff_lt_mul hn).2 (by omega)
    have h1 := hi (k / n) (by omega)
    rw [hcs, List.getElem?_eq_getElem (by omega)] at h1
    obtain ⟨zs, hzl, hze, hzw⟩ := trod_intsA hs he hc hcs h1
    have hm := Nat.div_add_mod k n
    have hr := Nat.mod_lt k hn
    have hz : k % n < zs.length := by omega
    have hg : (zs.map (Value.int q))[k % n]? = some cs[k] := by
      rw [← hze, List.getElem?_take_of_lt hr, List.getElem?_drop, show k / n * n + k % n = k by rw [Nat.mul_comm]; exact hm, List.getElem?_eq_getElem hlt]
    rw [List.getElem?_map, List.getElem?_eq_getElem hz] at hg
    simp only [Option.map_some, Option.some.injEq] at hg
    exact ⟨_, hg.symm, hzw _ (List.getElem_mem hz)⟩
  refine ⟨cs.map (fun | .int _ z => z | _ => 0), by simpa using hl', ?_, ?_⟩
  · rw [List.map_map]
    refine (List.map_id cs).symm.trans (List.map_congr_left fun v hm => ?_)
    obtain ⟨z, rfl, _⟩ := hv v hm
    rfl
  · intro z hz
    obtain ⟨v, hm, rfl⟩ := List.mem_map.1 hz
    obtain ⟨z', rfl, hw⟩ := hv v hm
    exact hw
end

theorem agg_of_trod2 {H : Type} {enc : TypeId × Value → H} {P : Program} {w : World} {base : Nat} {spare : Nat → Bool} {held : Bool} {t : TypeId} {v : Value} {d : DataW H} {p : List MemPlace} (h : DataW.Trod enc P w base spare held t v d p)
    {n : Nat} {e : TypeId} (ht : P.underlying t = some (.array n e)) (hn : P.cellsOf t ≠ 1) : ∃ cs : Array Value, v = .agg cs ∧ ∃ fuel x, DataW.trod enc P w base spare held fuel t cs.toList = some x := by
  obtain ⟨fuel, hf⟩ := h
  cases v with
  | agg cs => exact ⟨cs, rfl, fuel, _, hf⟩
  | _ =>
    obtain ⟨xs, fu, _, _, hl, _, _⟩ := DataW.trod_array ht hf
    exact absurd hl.symm (by simpa [Value.cells] using hn)
end Go.Proofs.YthpallkphamobaaGreatDoor
