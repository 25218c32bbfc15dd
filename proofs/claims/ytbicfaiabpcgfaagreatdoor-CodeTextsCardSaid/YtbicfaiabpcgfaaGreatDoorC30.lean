/- Texts of this claim, merged; no condition. -/
import Derived.Test.YtbicfaiabpcgfaaGreatDoorRows
import Derived.Handed
import Derived.Shelf.Vars
import Derived.ProofKit
import Derived.Test.YtbicfaiabpcgfaaGreatDoorC00
import Derived.OpenShut
import Derived.ShutString
import Derived.ChangeOld
import Derived.Below
import Derived.Test.YtbicfaiabpcgfaaGreatDoorC29
import Derived.Test.YtbicfaiabpcgfaaGreatDoorC07
set_option linter.all false
namespace Go.Proofs.YtbicfaiabpcgfaaGreatDoor
open Go.RowKit

theorem handed_and_shaped {H : Type} {enc : TypeId × Value → H} {a : Assume} {C : Checked} {os : Os} {f : FuncId} {fn : Func} {s : ChangeSpec} {conds : List PathCond} {apart fresh handsOn again : Bool} {X : World → Array Value → Prop}
    (hX : ∀ (w w' : World) (args : Array Value), w.heap = w'.heap → X w args → X w' args)
    (own : ownKnob C.prog.godebug = none) (started : os.Started) (noInit : C.prog.inits.idxOf? f = none) (hfn : C.prog.funcs[f]? = some fn)
    (witness : ∃ (w : World) (tape : Tape) (i : Input), w.os = os ∧ (w.forCall tape i).Shaped C.prog ∧ i.vars = [] ∧ Input.okWide C.prog (w.forCall tape i) .any w.heap.size f i ∧
      ((s.pre enc C.prog fn conds apart (w.forCall tape i).memory i.args ∧ X (w.forCall tape i).memory i.args) ∧ sizedMet enc C.prog fn (OpenSpec.ofChange s) apart (w.forCall tape i).memory i.args) ∧ a.holds C.prog (lone (Frame.enter C.prog f i.args .normal) [] (w.forCall tape i)))
    (walk : ∀ (W : World) (base : Nat) (args : Array Value) (ds gs : List (DataW H)) (before : List MemPlace),
      (∀ (j : Nat) t v, fn.params[j]? = some t → args[j]? = some v → Value.okWide C.prog W .any base t v) →
      DataW.Whole enc C.prog fn.params.toList s.vars apart W args.toList ds gs before →
      X W args → W.ShapedOpen C.prog →
      Calls C.prog f args W fun e W' => ∃ v, e = .returned v ∧ s.post enc C.prog fn apart fresh handsOn again W args v W') :
    ReturnsInHanded a C os f .any (fun w args => (s.pre enc C.prog fn conds apart w args ∧ X w args) ∧ sizedMet enc C.prog fn (OpenSpec.ofChange s) apart w args) (s.post enc C.prog fn apart fresh handsOn again) := by
  refine returnsInHanded_of_calls own started noInit witness fun w tape i _ hsh _ hok hpre _ => ?_
  obtain ⟨_, _, _, fn2, hfn2, _, _, _, _, hval⟩ := hok
  obtain rfl : fn2 = fn := Option.some.inj (hfn2.symm.trans hfn)
  obtain ⟨⟨⟨ds, gs, before, hw, -⟩, hx⟩, -⟩ := hpre
  refine (walk (w.forCall tape i) w.heap.size i.args ds gs before hval (DataW.Whole.of_heap (w' := w.forCall tape i) (by rfl) hw) (hX _ _ _ (by rfl) hx) hsh).mono fun e W' h => ?_
  obtain ⟨v, rfl, hp⟩ := h
  exact ChangeSpec.post_blind hp
/-- The cell of internal/bytealg.MaxLen. -/
def Tab (w : World) : Prop := ∃ m, w.cell? ⟨0, 0, none⟩ = some (.int .i64 m)
theorem Tab.below {w w' : World} (h : Tab w) (hb : Below w.heap.size w w') : Tab w' := by
  obtain ⟨m, hm⟩ := h
  exact ⟨m, cbel hb hm⟩
theorem tab_of_shaped {w : World} (h : w.ShapedOpen Tryz.prog) : Tab w :=
  cell_of_shapedOpen_int (t := 3) (zero := #[.int .i64 0]) h (of_decide_eq_true (by kernel_rfl)) (by kernel_rfl) rfl (by kernel_rfl) (by kernel_rfl) Tryz.underlying3
end Go.Proofs.YtbicfaiabpcgfaaGreatDoor
namespace Go.Proofs.YtbicfaiabpcgfaaGreatDoor
open Go.ChangeShapes Go.WideShapes Go.ChangeAt Go.RowKit
open Go.ChangeMaps (open_string shut_string)

/-- What became of the walk of a law: true, and nothing that was there has turned. -/
def Yes (w : World) (e : Ending) (w' : World) : Prop := e = .returned (.bool true) ∧ Below w.heap.size w w'

section
variable {H : Type} {enc : TypeId × Value → H} {P : Program} {w : World} {base : Nat} {spare : Nat → Bool} {held : Bool} {t e : TypeId} {fuel : Nat} {cs : List Value} {x : DataW H × List MemPlace}

/-- A slice of integers. -/
theorem trod_row {q : IntKind} {v : Value} (ht : P.underlying t = some (.slice e)) (he : P.underlying e = some (.int q)) (hc : P.cellsOf e = 1) (h : DataW.trod enc P w base spare held fuel t [v] = some x) :
    ∃ a c zs, v = .slice a zs.length c ∧ RowAt q w a zs ∧ (a = none → c = 0) ∧ zs.length ≤ 9223372036854775807 ∧ ∀ z ∈ zs, (Lit.int q z).wf = true := by
  rcases open_ints ht he hc h with ⟨hcs, _⟩ | ⟨a, len, cap, zs, hcs, _, hl, hm, hz, _, hcell, hw⟩
  · simp only [List.cons.injEq, and_true] at hcs
    exact ⟨none, 0, [], hcs, RowAt.nil, fun _ => rfl, by simp, by simp⟩
  · simp only [List.cons.injEq, and_true] at hcs
    have hlz : len ≤ zs.length := by split at hz <;> omega
    refine ⟨some a, cap, zs.take len, by rw [hcs, List.length_take, Nat.min_eq_left hlz], fun i hi => ?_, by simp, ?_, fun z hz => hw z (List.mem_of_mem_take hz)⟩
    · rw [List.length_take] at hi
      have hcl := hcell i (by omega)
      obtain ⟨b, o, s⟩ := a
      have h0 := hcell 0 (by omega)
      have hs : s = none := by simpa [Addr.add] using World.cell?_spot h0
      subst hs
      refine ⟨b, o, rfl, ?_⟩
      rw [Addr.add_lit] at hcl
      rw [hcl, List.getElem_take, List.getD_eq_getElem?_getD, List.getElem?_eq_getElem (by omega)]
      rfl
    · unfold maxLen at hm
      rw [List.length_take]; omega
end

end Go.Proofs.YtbicfaiabpcgfaaGreatDoor
namespace Go.Proofs.YtbicfaiabpcgfaaGreatDoor
open Go.RowKit Go.Shelf

theorem str_bytes (x : ByteArray) : ∃ s : List UInt8, x = ⟨s.toArray⟩ := ⟨x.data.toList, by simp⟩
theorem info_bare : ∀ c : Nat, c < 256 → namedN c = false → infoN c = ⟨[], 0, 0, 0, false, 0⟩ := by decide +kernel
theorem info_name : ∀ c : Nat, c < 256 → namedN c = true → (infoN c).name.isEmpty = false := by decide +kernel
theorem named_nil : namedO [] = none := by kernel_rfl
theorem works10_at (w : World) (h : Tab w) : Calls Tryz.prog 8 #[] w fun e w' => e = .returned (.bool true) ∧ Below w.heap.size w w' := by
  obtain ⟨m, hm⟩ := h
  exact works10_any m w hm
set_option maxRecDepth 100000 in
set_option maxHeartbeats 8000000 in
theorem codeInfos_walk (x : Int) (s : ByteArray) (w : World) (hx : 0 ≤ x ∧ x ≤ 255) (hs : s.size ≤ 9223372036854775807) (hT : Tab w) :
    Calls Tryz.prog 3 #[.int .u8 x, .string s] w (Yes w) := by
  obtain ⟨c, rfl⟩ : ∃ c : Nat, x = c := ⟨x.toNat, by omega⟩
  obtain ⟨s, rfl⟩ := str_bytes s
  have hc : c < 256 := by omega
  have hwk := Lib.hid fun W (h : Below w.heap.size w W) => works10_at W (hT.below h)
  by_cases hl : (s.length : Int) > 40
  · go_enter Tryz.func3, Tryz.ntmps3
    go_wp2_with (go_at_call 8; refine (hwk.out _ (xrefl w)).mono ?_; rintro e w3 ⟨rfl, b3⟩)
    go_ret
    exact ⟨rfl, b3⟩
  · have hi := Lib.hid fun W => info_any c W hc
    have hr := Lib.hid fun W => refInfo_any c W hc
    have hn := Lib.hid fun W => named_any s W
    have hrn := Lib.hid fun W => refNamed_any s W
    have h255 : ((namedO s).getD 0 : Nat) ≤ 255 := by
      cases hs : namedO s with
      | none => simp
      | some o => have := (named_some hs).1; simp; omega
    generalize (namedO s).getD 0 = a at *
    generalize (namedO s).isSome = it at *
    cases hN : namedN c with
    | true =>
      rw [hN] at hi
      have hne := info_name c hc hN
      have hn2 := Lib.hid fun W => named_any (infoN c).name W
      rw [named_name c hc hN] at hn2
      simp only [Option.getD_some, Option.isSome_some] at hn2
      unfold infoV at hi hr
      generalize infoN c = X at *
      obtain ⟨nm, iN, oN, gN, qN, zN⟩ := X
      simp only at hi hr hn2 hne
      have heq : ∀ W, (binOp .eql 25 (.agg #[.string ⟨(nm : List UInt8).toArray⟩, .int .i64 iN, .int .i64 oN, .int .u64 gN, .bool qN, .int .i64 zN]) (.agg #[.string ⟨(nm : List UInt8).toArray⟩, .int .i64 iN, .int .i64 oN, .int .u64 gN, .bool qN, .int .i64 zN])).run Tryz.prog W = .ok (.bool true) W := fun W => by simp [go_sem]
      go_enter Tryz.func3, Tryz.ntmps3
      go_wp2_with (first
        | (go_at_call 9; refine (hi.out _).mono ?_; rintro e w1 ⟨rfl, hb1⟩; have hA := Lib.hid (BlkG.new w1 25 [.string ⟨(nm : List UInt8).toArray⟩, .int .i64 iN, .int .i64 oN, .int .u64 gN, .bool qN, .int .i64 zN]); replace hb1 := Lib.hid (xalloc hb1 (.cells #[.string ⟨(nm : List UInt8).toArray⟩, .int .i64 iN, .int .i64 oN, .int .u64 gN, .bool qN, .int .i64 zN] 25)))
        | (go_at_call 10; refine (hr.out _).mono ?_; rintro e w2 ⟨rfl, hb2⟩; have hx2 := xalloc (xrefl w2) (.cells #[.string ⟨(nm : List UInt8).toArray⟩, .int .i64 iN, .int .i64 oN, .int .u64 gN, .bool qN, .int .i64 zN] 25); replace hA := Lib.hid ((hA.out.below hb2).below hx2); have hB := Lib.hid (BlkG.new w2 25 [.string ⟨(nm : List UInt8).toArray⟩, .int .i64 iN, .int .i64 oN, .int .u64 gN, .bool qN, .int .i64 zN]); replace hb1 := Lib.hid (xtrans (xtrans hb1.out hb2) hx2); clear hx2)
        | (go_at_call 12; refine (hrn.out _).mono ?_; rintro e w4 ⟨rfl, hb4⟩; replace hA := Lib.hid (hA.out.below hb4); replace hB := Lib.hid (hB.out.below hb4); replace hb1 := Lib.hid (xtrans hb1.out hb4); have cB := hB.out.cell 0 (by simp); simp only [List.getElem_cons_zero] at cB; clear hn)
        | (go_at_call 11; (with_reducible refine (hn.out _).mono ?_); rintro e w3 ⟨rfl, hb3⟩; replace hA := Lib.hid (hA.out.below hb3); replace hB := Lib.hid (hB.out.below hb3); replace hb1 := Lib.hid (xtrans hb1.out hb3))
        | (go_at_call 11; (with_reducible refine (hn2.out _).mono ?_); rintro e w5 ⟨rfl, hb5⟩; replace hA := Lib.hid (hA.out.below hb5); replace hB := Lib.hid (hB.out.below hb5); replace hb1 := Lib.hid (xtrans hb1.out hb5); clear cB; have cB := hB.out.cell 0 (by simp); simp only [List.getElem_cons_zero] at cB)
        | (refine wpList_load_blkG_g rfl 25 _ rfl w1.heap.size rfl 25 [.string ⟨(nm : List UInt8).toArray⟩, .int .i64 iN, .int .i64 oN, .int .u64 gN, .bool qN, .int .i64 zN] _ hA.out Tryz.underlying25 rfl (by kernel_rfl) ?_)
        | (refine wpList_load_blkG_g rfl 25 _ rfl w2.heap.size rfl 25 [.string ⟨(nm : List UInt8).toArray⟩, .int .i64 iN, .int .i64 oN, .int .u64 gN, .bool qN, .int .i64 zN] _ hB.out Tryz.underlying25 rfl (by kernel_rfl) ?_)
        | (go_at_call 8; refine (hwk.out _ hb1.out).mono ?_; rintro e w9 ⟨rfl, b9⟩))
      go_ret
      exact ⟨rfl, xtrans hb1.out b9⟩
    | false =>
      rw [hN] at hi
      have hn2 := Lib.hid fun W => named_any [] W
      rw [named_nil] at hn2
      simp only [Option.getD_none, Option.isSome_none] at hn2
      rw [info_bare c hc hN] at hi hr
      unfold infoV at hi hr
      simp only at hi hr
      have heq : ∀ W, (binOp .eql 25 (.agg #[.string ⟨#[]⟩, .int .i64 0, .int .i64 0, .int .u64 0, .bool false, .int .i64 0]) (.agg #[.string ⟨#[]⟩, .int .i64 0, .int .i64 0, .int .u64 0, .bool false, .int .i64 0])).run Tryz.prog W = .ok (.bool true) W := fun W => by kernel_rfl
      go_enter Tryz.func3, Tryz.ntmps3
      go_wp2_with (first
        | (go_at_call 9; refine (hi.out _).mono ?_; rintro e w1 ⟨rfl, hb1⟩; have hA := Lib.hid (BlkG.new w1 25 [.string ⟨#[]⟩, .int .i64 0, .int .i64 0, .int .u64 0, .bool false, .int .i64 0]); replace hb1 := Lib.hid (xalloc hb1 (.cells #[.string ⟨#[]⟩, .int .i64 0, .int .i64 0, .int .u64 0, .bool false, .int .i64 0] 25)))
        | (go_at_call 10; refine (hr.out _).mono ?_; rintro e w2 ⟨rfl, hb2⟩; have hx2 := xalloc (xrefl w2) (.cells #[.string ⟨#[]⟩, .int .i64 0, .int .i64 0, .int .u64 0, .bool false, .int .i64 0] 25); replace hA := Lib.hid ((hA.out.below hb2).below hx2); have hB := Lib.hid (BlkG.new w2 25 [.string ⟨#[]⟩, .int .i64 0, .int .i64 0, .int .u64 0, .bool false, .int .i64 0]); replace hb1 := Lib.hid (xtrans (xtrans hb1.out hb2) hx2); clear hx2)
        | (go_at_call 12; refine (hrn.out _).mono ?_; rintro e w4 ⟨rfl, hb4⟩; replace hA := Lib.hid (hA.out.below hb4); replace hB := Lib.hid (hB.out.below hb4); replace hb1 := Lib.hid (xtrans hb1.out hb4); have cB := hB.out.cell 0 (by simp); simp only [List.getElem_cons_zero] at cB; clear hn)
        | (go_at_call 11; (with_reducible refine (hn.out _).mono ?_); rintro e w3 ⟨rfl, hb3⟩; replace hA := Lib.hid (hA.out.below hb3); replace hB := Lib.hid (hB.out.below hb3); replace hb1 := Lib.hid (xtrans hb1.out hb3))
        | (go_at_call 11; (with_reducible refine (hn2.out _).mono ?_); rintro e w5 ⟨rfl, hb5⟩; replace hA := Lib.hid (hA.out.below hb5); replace hB := Lib.hid (hB.out.below hb5); replace hb1 := Lib.hid (xtrans hb1.out hb5); clear cB; have cB := hB.out.cell 0 (by simp); simp only [List.getElem_cons_zero] at cB)
        | (refine wpList_load_blkG_g rfl 25 _ rfl w1.heap.size rfl 25 [.string ⟨#[]⟩, .int .i64 0, .int .i64 0, .int .u64 0, .bool false, .int .i64 0] _ hA.out Tryz.underlying25 rfl (by kernel_rfl) ?_)
        | (refine wpList_load_blkG_g rfl 25 _ rfl w2.heap.size rfl 25 [.string ⟨#[]⟩, .int .i64 0, .int .i64 0, .int .u64 0, .bool false, .int .i64 0] _ hB.out Tryz.underlying25 rfl (by kernel_rfl) ?_)
        | (go_at_call 8; refine (hwk.out _ hb1.out).mono ?_; rintro e w9 ⟨rfl, b9⟩))
      go_ret
      exact ⟨rfl, xtrans hb1.out b9⟩
end Go.Proofs.YtbicfaiabpcgfaaGreatDoor
namespace Go.Proofs.YtbicfaiabpcgfaaGreatDoor
open Go.RowKit Go.Shelf

theorem name_long : ∀ c : Nat, c < 256 → namedN c = true → 1 ≤ (infoN c).name.length := by decide +kernel
theorem join_sum (s : List UInt8) : ∀ ws : List (List UInt8), (ws.map List.length).sum ≤ (Lib.join ws s).length
  | [] => by simp
  | [w] => by simp [Lib.join]
  | w :: x :: r => by
    rw [join_cons2, List.length_append, List.length_append]
    have := join_sum s (x :: r)
    simp only [List.map_cons, List.sum_cons] at this ⊢
    omega
theorem parseW_len : ∀ (n : Nat) (ws : List (List UInt8)) (l : List Nat), ws.length ≤ n → parseW ws = some l → l.length ≤ (ws.map List.length).sum
  | 0, ws, l, hn, h => by
    obtain rfl : ws = [] := by simpa using hn
    rw [parseW] at h
    cases h; simp
  | n + 1, [], l, _, h => by rw [parseW] at h; cases h; simp
  | n + 1, w :: r, l, hn, h => by
    have hr : r.length ≤ n := by simp at hn; omega
    rw [List.map_cons, List.sum_cons]
    cases hop : namedO w with
    | some op =>
      obtain ⟨h1, h2, h3⟩ := named_some hop
      have hw : 1 ≤ w.length := by rw [← h3]; exact name_long op h1 h2
      by_cases hz : szN op = 0
      · have hp := pw_one (P := parseW (w :: r)) (bs := []) (r := r) (w := w) (op := op) (by cases parseW (w :: r) <;> simp) hop hz
        rw [h] at hp
        cases hq : parseW r with
        | none => rw [hq] at hp; cases hp
        | some l2 =>
          rw [hq] at hp
          have := parseW_len n r l2 hr hq
          simp at hp
          subst hp
          simp
          omega
      · cases r with
        | nil =>
          have hp := pw_end (P := parseW [w]) (bs := []) (w := w) (op := op) (by cases parseW [w] <;> simp) hop hz
          rw [h] at hp; cases hp
        | cons x r2 =>
          have hr2 : r2.length ≤ n := by simp at hr; omega
          obtain ⟨q1, q2⟩ := pw_two (P := parseW (w :: x :: r2)) (bs := []) (r := r2) (w := w) (x := x) (op := op) (by cases parseW (w :: x :: r2) <;> simp) hop hz
          cases hu : unhexN x with
          | none => rw [q1 hu] at h; cases h
          | some us =>
            by_cases hl : us.length = szN op
            · have hp := (q2 us hu).2 hl
              rw [h] at hp
              have hx := unhexN_len hu
              cases hq : parseW r2 with
              | none => rw [hq] at hp; cases hp
              | some l2 =>
                rw [hq] at hp
                have := parseW_len n r2 l2 hr2 hq
                simp at hp
                subst hp
                simp
                omega
            · rw [(q2 us hu).1 hl] at h; cases h
    | none =>
      obtain ⟨q1, q2⟩ := pw_hex (P := parseW (w :: r)) (bs := []) (r := r) (w := w) (by cases parseW (w :: r) <;> simp) hop
      cases hu : unhexN w with
      | none => rw [q1 hu] at h; cases h
      | some us =>
        by_cases hl : us.length = 1
        · obtain ⟨b, rfl⟩ : ∃ b, us = [b] := by
            match us, hl with
            | [b], _ => exact ⟨b, rfl⟩
          cases hb : namedN b with
          | true => rw [((q2 _ hu).2 b rfl).1 hb] at h; cases h
          | false =>
            have hp := ((q2 _ hu).2 b rfl).2 hb
            rw [h] at hp
            have hx := unhexN_len hu
            cases hq : parseW r with
            | none => rw [hq] at hp; cases hp
            | some l2 =>
              rw [hq] at hp
              have := parseW_len n r l2 hr hq
              simp at hp hx
              subst hp
              simp
              omega
        · rw [(q2 us hu).1 hl] at h; cases h
theorem parse_len {s : List UInt8} {l : List Nat} (h : parseC s = some l) : l.length ≤ s.length := by
  unfold parseC at h
  by_cases hs : s = []
  · rw [if_pos hs] at h; cases h; simp
  · rw [if_neg hs] at h
    have h1 := parseW_len _ _ l (Nat.le_refl _) h
    have h2 := join_sum [32] (splS 32 s)
    rw [join_spl] at h2
    omega
theorem parse_is {s : List UInt8} (hl : s.length ≤ 65536) : (∃ l, parseC s = some l ∧ parseNo s = 0 ∧ parseL s = l) ∨ (parseC s = none ∧ parseNo s = 200 ∧ parseL s = []) := by
  unfold parseNo parseL
  rw [if_neg (by omega), if_neg (by omega)]
  cases h : parseC s with
  | none => exact .inr ⟨rfl, rfl, rfl⟩
  | some l => exact .inl ⟨l, rfl, rfl, rfl⟩
theorem OwnU.code {w w' : World} {v : Value} {l : List Nat} (h : OwnU w w' v l) (h2 : l.length ≤ 1000) (hok : ∀ b ∈ l, b < 256) : ∃ a c, v = .slice a l.length c ∧ CodeAt w' a c l := by
  obtain ⟨a, c, e, hr, hn⟩ := h.at
  refine ⟨a, c, e, hr, hn, h2, hok, ?_⟩
  rcases h.2 with ⟨e2, h0⟩ | ⟨g, cap, cur, e2, -, -, h3, h4, -⟩
  · rw [e2] at e
    simp only [Value.slice.injEq] at e
    omega
  · rw [e2] at e
    simp only [Value.slice.injEq] at e
    obtain ⟨-, -, rfl⟩ := e
    unfold maxLen at h4; exact ⟨h3, h4⟩
set_option maxRecDepth 100000 in
set_option maxHeartbeats 8000000 in
theorem codeReads_walk (s : ByteArray) (w : World) (hs : s.size ≤ 9223372036854775807) (hT : Tab w) :
    Calls Tryz.prog 6 #[.string s] w (Yes w) := by
  obtain ⟨s, rfl⟩ := str_bytes s
  have hwk := Lib.hid fun W (h : Below w.heap.size w W) => works10_at W (hT.below h)
  by_cases hl : (s.length : Int) > 800
  · go_enter Tryz.func6, Tryz.ntmps6
    go_wp2_with (go_at_call 8; refine (hwk.out _ (xrefl w)).mono ?_; rintro e w3 ⟨rfl, b3⟩)
    go_ret
    exact ⟨rfl, b3⟩
  · have hp := Lib.hid (by obtain ⟨m, hm⟩ := hT; exact parse_any s m w (by omega) hm)
    have hr := Lib.hid fun W => refParse_any s W (by omega)
    have hnm := Lib.hid num_any
    rcases parse_is (s := s) (by omega) with ⟨l, hC, hno, hL⟩ | ⟨hC, hno, hL⟩
    · obtain ⟨htx, hok⟩ := parse_text hC
      have hll := parse_len hC
      have hlN : l.length ≤ 1000 := by omega
      rw [hno, hL] at hp hr
      have hsh : Hid (∀ W a c, CodeAt W a c l → Calls Tryz.prog 15 #[.slice a l.length c] W fun e w' => e = .returned (.string ⟨s.toArray⟩) ∧ Below W.heap.size W w') := Lib.hid fun W a c h => by
        have := text_any l a c W h
        rwa [htx] at this
      replace hok := Lib.hid hok
      clear hT hC hno hL htx
      go_enter Tryz.func6, Tryz.ntmps6
      go_wp2_with (first
        | (go_at_call 16; refine hp.out.mono ?_; rintro e w1 ⟨⟨v1, rfl, ho1⟩, hb1⟩; obtain ⟨a1, c1, rfl, hr1⟩ := ho1.code (by omega) hok.out; replace hr1 := Lib.hid hr1; replace hb1 := Lib.hid hb1)
        | (go_at_call 17; refine (hr.out _).mono ?_; rintro e w2 ⟨⟨v2, rfl, ho2⟩, hb2⟩; obtain ⟨a2, c2, rfl, hr2, -⟩ := ho2.at; have k2 := conv_row w2 a2 c2 l hr2 hok.out; have k1 := conv_row w2 a1 c1 l (hr1.out.row.below hb2) hok.out; replace hr1 := Lib.hid (hr1.out.below hb2); replace hb1 := Lib.hid (xtrans hb1.out hb2); clear hr2)
        | (go_at_call 19; refine (hnm.out _ _).mono ?_; rintro e w3 ⟨rfl, hb3⟩; replace hr1 := Lib.hid (hr1.out.below hb3); replace hb1 := Lib.hid (xtrans hb1.out hb3); clear k1 k2)
        | (go_at_call 15; refine (hsh.out _ _ _ hr1.out).mono ?_; rintro e w4 ⟨rfl, hb4⟩; replace hb1 := Lib.hid (xtrans hb1.out hb4))
        | (go_at_call 8; refine (hwk.out _ hb1.out).mono ?_; rintro e w9 ⟨rfl, b9⟩))
      go_ret
      exact ⟨rfl, xtrans hb1.out b9⟩
    · rw [hno, hL] at hp hr
      clear hT hC hno hL
      go_enter Tryz.func6, Tryz.ntmps6
      go_wp2_with (first
        | (go_at_call 16; refine hp.out.mono ?_; rintro e w1 ⟨⟨v1, rfl, ho1⟩, hb1⟩; obtain ⟨a1, c1, rfl, hr1, hn1⟩ := ho1.at; replace hr1 := Lib.hid hr1; replace hb1 := Lib.hid hb1)
        | (go_at_call 17; refine (hr.out _).mono ?_; rintro e w2 ⟨⟨v2, rfl, ho2⟩, hb2⟩; obtain ⟨a2, c2, rfl, hr2, -⟩ := ho2.at; have k2 := conv_zero w2 a2 c2; have k1 := conv_zero w2 a1 c1; replace hb1 := Lib.hid (xtrans hb1.out hb2); clear hr2)
        | (go_at_call 19; refine (hnm.out _ _).mono ?_; rintro e w3 ⟨rfl, hb3⟩; replace hb1 := Lib.hid (xtrans hb1.out hb3); clear k1 k2)
        | (go_at_call 8; refine (hwk.out _ hb1.out).mono ?_; rintro e w9 ⟨rfl, b9⟩))
      go_ret
      exact ⟨rfl, xtrans hb1.out b9⟩
end Go.Proofs.YtbicfaiabpcgfaaGreatDoor
namespace Go.Proofs.YtbicfaiabpcgfaaGreatDoor
open Go.ChangeShapes Go.WideShapes Go.ChangeAt Go.RowKit
variable {H : Type} {enc : TypeId × Value → H} {P : Program} {w : World} {base : Nat} {spare : Nat → Bool} {held : Bool} {t e : TypeId} {fuel : Nat} {cs : List Value} {x : DataW H × List MemPlace}

theorem trod_row2 {q : IntKind} {v : Value} (ht : P.underlying t = some (.slice e)) (he : P.underlying e = some (.int q)) (hc : P.cellsOf e = 1) (h : DataW.trod enc P w base spare held fuel t [v] = some x) :
    ∃ a c zs, v = .slice a zs.length c ∧ RowAt q w a zs ∧ (a = none → c = 0) ∧ (zs.length ≤ c ∧ c ≤ 9223372036854775807) ∧ ∀ z ∈ zs, (Lit.int q z).wf = true := by
  obtain ⟨a, c, zs, h1, h2, h3, h4, h5⟩ := trod_row ht he hc h
  refine ⟨a, c, zs, h1, h2, h3, ?_, h5⟩
  rcases open_ints ht he hc h with ⟨hcs, _⟩ | ⟨a', len, cap, zs', hcs, _, hl, hm, _⟩
  · simp only [List.cons.injEq, and_true] at hcs
    rw [h1] at hcs
    injection hcs with e1 e2 e3
    omega
  · simp only [List.cons.injEq, and_true] at hcs
    rw [h1] at hcs
    injection hcs with e1 e2 e3
    unfold maxLen at hm
    omega
end Go.Proofs.YtbicfaiabpcgfaaGreatDoor
