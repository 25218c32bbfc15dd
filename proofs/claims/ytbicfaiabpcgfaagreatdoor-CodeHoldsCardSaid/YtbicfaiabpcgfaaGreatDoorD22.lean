/- Texts of this claim, merged; no condition. -/
import Derived.Test.YtbicfaiabpcgfaaGreatDoorD21
import Derived.Lib.SplitLaws
import Derived.Test.YtbicfaiabpcgfaaGreatDoorD02
set_option linter.all false
namespace Go.Proofs.YtbicfaiabpcgfaaGreatDoor
open Go.RowKit Go.Shelf

theorem results_two {P : Program} {fn : Func} {p r : Tmp} {ty t2 : TypeId} (h : fn.results = #[.cell p ty, .cell r t2]) (tmps : Array Value) (w : World) (b b2 : Nat) (u v : Value)
    (hp : tmps.getD p undef = .pointer (some ⟨b, 0, none⟩)) (hu : (loadVar ty ⟨b, 0, none⟩).run P w = .ok u w)
    (hr : tmps.getD r undef = .pointer (some ⟨b2, 0, none⟩)) (hv : (loadVar t2 ⟨b2, 0, none⟩).run P w = .ok v w) :
    (results fn tmps).run P w = .ok (.tuple #[u, v]) w := by
  have hp' : tmps[p]?.getD undef = .pointer (some ⟨b, 0, none⟩) := by simpa using hp
  have hr' : tmps[r]?.getD undef = .pointer (some ⟨b2, 0, none⟩) := by simpa using hr
  simp [results, h, hp', hr', asAddr, Sem.run_bind, hu, hv]
theorem load_row (w : World) (b : Nat) (u : Value) (T : TypeId) (h : Box w b u T) : (loadVar 32 ⟨b, 0, none⟩).run Tryz.prog w = .ok u w := by
  have := h.cell
  simp [go_sem, this]
theorem load_err (w : World) (b : Nat) (u : Value) (T : TypeId) (h : Box w b u T) : (loadVar 40 ⟨b, 0, none⟩).run Tryz.prog w = .ok u w := by
  have := h.cell
  simp [go_sem, this]
/-- The call's two boxes. -/
structure PrS (w W : World) (u : Value) (n : Nat) : Prop where
  bo : Box W w.heap.size u 32
  be : Box W (w.heap.size + 1) (.int .i64 n) 40
  hb : Below w.heap.size w W
theorem PrS.new (w : World) : PrS w ((w.alloc (.cells #[.slice none 0 0] 32)).alloc (.cells #[.int .i64 0] 40)) (.slice none 0 0) 0 := by
  refine ⟨(Box.new w _ _).below (xalloc (xrefl _) _), ?_, xalloc (xalloc (xrefl w) _) _⟩
  have := Box.new (w.alloc (.cells #[.slice none 0 0] 32)) (.int .i64 (0 : Nat)) 40
  rwa [World.size_alloc] at this
/-- What is given up is told. -/
theorem PrS.off {w W : World} {u : Value} {n0 : Nat} (h : PrS w W u n0) (n : Nat) : PrS w ((W.setCell ⟨w.heap.size + 1, 0, none⟩ (.int .i64 n)).setCell ⟨w.heap.size, 0, none⟩ (.slice none 0 0)) (.slice none 0 0) n := by
  have o1 : Only (· = w.heap.size + 1) W (W.setCell ⟨w.heap.size + 1, 0, none⟩ (.int .i64 n)) := (Only.refl _ _).setCell _ _ rfl
  have b1 := h.bo.only o1 (by omega)
  have e1 := h.be.set (.int .i64 (n : Int))
  have o2 : Only (· = w.heap.size) (W.setCell ⟨w.heap.size + 1, 0, none⟩ (.int .i64 n)) ((W.setCell ⟨w.heap.size + 1, 0, none⟩ (.int .i64 n)).setCell ⟨w.heap.size, 0, none⟩ (.slice none 0 0)) := (Only.refl _ _).setCell _ _ rfl
  have hb1 := o1.below h.hb h.hb.size (by rintro j rfl; omega)
  exact ⟨b1.set _, e1.only o2 (by omega), o2.below hb1 hb1.size (by rintro j rfl; omega)⟩
set_option maxRecDepth 100000 in
set_option maxHeartbeats 4000000 in
theorem parse_long (s : List UInt8) (w : World) (hs : 65536 < s.length) (hs2 : s.length ≤ 4194304) :
    Calls Tryz.prog 16 #[.string ⟨s.toArray⟩] w fun e w' => (∃ v, e = .returned (.tuple #[v, .int .i64 (parseNo s : Nat)]) ∧ OwnU w w' v (parseL s)) ∧ Below w.heap.size w w' := by
  have hmf : ∀ (fn : Fn) (first cap : Array Value) (w : World), (Instr.makeFunc fn first cap).run Tryz.prog w = .ok (.func fn first cap) w := fun _ _ _ _ => rfl
  have hsz : (⟨s.toArray⟩ : ByteArray).size = s.length := by show s.toArray.size = _; simp
  have hq : Hid (parseNo s = 3 ∧ parseL s = []) := Lib.hid ⟨by unfold parseNo; rw [if_pos hs], by unfold parseL; rw [if_pos hs]⟩
  have hlI : ¬ (s.length : Int) ≤ 65536 := by omega
  have h0 := Lib.hid (PrS.new w)
  have hm := Lib.hid fun W => mustC_false 3 W
  go_enter_defers Tryz.func16, Tryz.ntmps16
  go_wp2_with (go_at_call 40; refine (hm.out _).mono ?_; rintro e w3 ⟨rfl, rfl⟩)
  have h1 := h0.out.off 3
  refine leaves_cons (f := 38) (args := #[.pointer (some ⟨w.heap.size + 1, 0, none⟩), .func (.func 39) #[] #[.pointer (some ⟨w.heap.size, 0, none⟩)]]) (by simp) (by simp [go_sem]) ?_
  refine (caught_panicking ⟨w.heap.size + 1, 0, none⟩ ⟨w.heap.size, 0, none⟩ 3 _ _ _ h0.out.be.cell h0.out.be.free (h0.out.bo.only ((Only.refl (· = w.heap.size + 1) _).setCell _ _ rfl) (by omega)).cell (h0.out.bo.only ((Only.refl (· = w.heap.size + 1) _).setCell _ _ rfl) (by omega)).free).mono ?_
  rintro e u' w'' ⟨rfl, rfl, rfl⟩
  refine ⟨_, results_two (p := 2) (r := 3) rfl _ _ w.heap.size (w.heap.size + 1) _ _ rfl (load_row _ _ _ _ h1.bo) rfl (load_err _ _ _ _ h1.be), ⟨.slice none 0 0, ?_, ?_⟩, h1.hb⟩
  · rw [hq.out.1]
  · rw [hq.out.2]; exact OwnU.nil _ _
set_option maxRecDepth 100000 in
set_option maxHeartbeats 4000000 in
theorem parse_nil (w : World) :
    Calls Tryz.prog 16 #[.string ⟨#[]⟩] w fun e w' => (∃ v, e = .returned (.tuple #[v, .int .i64 (parseNo [] : Nat)]) ∧ OwnU w w' v (parseL [])) ∧ Below w.heap.size w w' := by
  have hmf : ∀ (fn : Fn) (first cap : Array Value) (w : World), (Instr.makeFunc fn first cap).run Tryz.prog w = .ok (.func fn first cap) w := fun _ _ _ _ => rfl
  have hq : Hid (parseNo [] = 0 ∧ parseL [] = []) := Lib.hid ⟨rfl, rfl⟩
  have h0 := PrS.new w
  have hm := Lib.hid fun W => mustC_true 3 W
  go_enter_defers Tryz.func16, Tryz.ntmps16
  go_wp2_with (go_at_call 40; refine (hm.out _).mono ?_; rintro e w3 ⟨rfl, rfl⟩)
  refine leaves_cons (f := 38) (args := #[.pointer (some ⟨w.heap.size + 1, 0, none⟩), .func (.func 39) #[] #[.pointer (some ⟨w.heap.size, 0, none⟩)]]) (by simp) (by simp [go_sem]) ?_
  refine (caught_idle ⟨w.heap.size + 1, 0, none⟩ ⟨w.heap.size, 0, none⟩ _).mono ?_
  rintro e u' w'' ⟨rfl, rfl, rfl⟩
  refine ⟨_, results_two (p := 2) (r := 3) rfl _ _ w.heap.size (w.heap.size + 1) _ _ rfl (load_row _ _ _ _ h0.bo) rfl (load_err _ _ _ _ h0.be), ⟨.slice none 0 0, ?_, ?_⟩, h0.hb⟩
  · rw [hq.out.1]
  · rw [hq.out.2]; exact OwnU.nil _ _
end Go.Proofs.YtbicfaiabpcgfaaGreatDoor
namespace Go.Proofs.YtbicfaiabpcgfaaGreatDoor
open Go.RowKit Go.Shelf

theorem spl_K (c : UInt8) : ∀ l : List UInt8, Lib.splitK [c] 0 (l.count c) l = splS c l
  | [] => rfl
  | x :: t => by
    have ih := spl_K c t
    by_cases hx : x = c
    · subst hx
      rw [List.count_cons_self, Lib.splitK, Lib.index_one]
      have h0 : Lib.indexByte (x :: t) x = 0 := by unfold Lib.indexByte; simp
      rw [h0, splS, if_pos rfl, ← ih]
      simp
    · rw [List.count_cons_of_ne (by simpa using hx), splS, if_neg hx, ← ih]
      have h1 : Lib.indexByte (x :: t) c = if Lib.indexByte t c == -1 then -1 else Lib.indexByte t c + 1 := by
        rw [Lib.indexByte, if_neg (by simpa using hx)]
      cases hk : t.count c with
      | zero => rfl
      | succ k =>
        rw [Lib.splitK, Lib.splitK, Lib.index_one, Lib.index_one, h1]
        have hge := Lib.indexByte_ge t c
        by_cases hm : Lib.indexByte t c = -1
        · rw [hm]; rfl
        · have hb : (Lib.indexByte t c == -1) = false := by rw [beq_eq_false_iff_ne]; exact hm
          rw [hb]
          have hb2 : (Lib.indexByte t c + 1 == -1) = false := by rw [beq_eq_false_iff_ne]; omega
          simp only [Bool.false_eq_true, if_false, hb2]
          have e1 : (Lib.indexByte t c + 1).toNat = (Lib.indexByte t c).toNat + 1 := by omega
          rw [e1]
          simp
theorem split_any (s : List UInt8) (m : Int) (w : World) (hl : s.length ≤ 65536) (hm : w.cell? ⟨0, 0, none⟩ = some (.int .i64 m)) :
    Calls Tryz.prog 41 #[.string ⟨s.toArray⟩, .string ⟨#[32]⟩] w fun e w' => (∃ a c, e = .returned (.slice a (splS 32 s).length c) ∧ (splS 32 s).length ≤ c ∧ c ≤ 1000000 ∧ RowV w' a ((splS 32 s).map sV) ∧ ∀ x, a = some x → x.block < w'.heap.size) ∧ Below w.heap.size w w' := by
  have hsz : (⟨s.toArray⟩ : ByteArray).size = s.length := by show s.toArray.size = _; simp
  have hcount : Lib.countB ⟨s.toArray⟩ ⟨#[32]⟩ = s.count 32 := by
    have := Lib.count_one 32 s
    exact this
  have hd : (Lib.splitB ⟨#[32]⟩ 0 (Lib.countB ⟨s.toArray⟩ ⟨#[32]⟩) ⟨s.toArray⟩).map (·.data.toList) = splS 32 s := by
    rw [Lib.splitB_data, hcount]
    exact spl_K 32 s
  have hlen : Lib.countB ⟨s.toArray⟩ ⟨#[32]⟩ + 1 = (splS 32 s).length := by
    rw [← hd, List.length_map]
    exact (Lib.splitB_all ⟨#[32]⟩ (by decide) 0 _ _ rfl).symm
  have hval : (Lib.splitB ⟨#[32]⟩ 0 (Lib.countB ⟨s.toArray⟩ ⟨#[32]⟩) ⟨s.toArray⟩).map Value.string = (splS 32 s).map sV := by
    rw [← hd, List.map_map]
    refine List.map_congr_left fun b _ => ?_
    show Value.string b = Value.string ⟨b.data.toList.toArray⟩
    simp
  have hsl := (spl_size 32 s).1
  refine (Tryz.strings_Split ⟨s.toArray⟩ ⟨#[32]⟩ m w (by rw [hsz]; omega) hm (by decide)).mono ?_
  rintro e w' ⟨rfl, rfl⟩
  rw [hlen, hval]
  exact ⟨⟨_, _, rfl, Nat.le_refl _, by omega, rowV_new w 9 _, fun x e => by cases e; show w.heap.size < _; rw [World.size_alloc]; omega⟩, xalloc (xrefl w) _⟩
end Go.Proofs.YtbicfaiabpcgfaaGreatDoor
namespace Go.Proofs.YtbicfaiabpcgfaaGreatDoor
open Go.RowKit

/-- Each operation behind the n-th waits for one of them, or for the n-th. -/
def treeTB (ops : Array Oper) (n : Nat) : Bool := (List.range ops.size).all fun t => decide (t ≤ n) || (List.range t).any fun j => decide (n ≤ j) && Region.waitsFor .any ops t j
theorem tail_waitsT {ops : Array Oper} {n : Nat} {listed : Array Bool} (hs : Region.sinkB .any ops n = true) (hc : treeTB ops n = true) (hn : n < ops.size) (inv : HeadInv .any ops n listed) :
    ∀ (d i : Nat), n - i = d → i < n → listed.getD i true = false → ∀ t, n ≤ t → t ∉ Region.ready .any ops listed := by
  intro d
  induction d using Nat.strongRecOn with
  | _ d ih =>
    intro i hd hi hun t ht hr
    obtain ⟨_, ot, hot, hall⟩ := mem_ready.1 hr
    have htlt : t < ops.size := (Array.getElem?_eq_some_iff.1 hot).1
    by_cases htn : t = n
    · subst htn
      have h1 := List.all_eq_true.1 hs i (List.mem_range.2 hi)
      obtain ⟨j, hj, hj2⟩ := List.any_eq_true.1 h1
      simp only [Bool.and_eq_true, decide_eq_true_eq] at hj2
      obtain ⟨oj, hoj, e, he, hb, hon⟩ := Region.waitsFor_spec hj2.2
      have hjle : j ≤ t := by have := List.mem_range.1 hj; omega
      by_cases hjt : j = t
      · subst hjt
        have : oj = ot := Option.some.inj (hoj.symm.trans hot)
        subst this
        have h2 := hall e he hb
        rw [hon, getD_both hun] at h2
        cases h2
      · cases hl : listed.getD j false with
        | true =>
          have h2 := inv.closed j oj hoj hl e he hb
          rw [hon, getD_both hun] at h2
          cases h2
        | false =>
          have hjs : j < listed.size := by rw [inv.size]; omega
          exact ih (t - j) (by omega) j rfl (by omega) (getD_in hjs hl) t (Nat.le_refl _) hr
    · have h1 := List.all_eq_true.1 hc t (List.mem_range.2 htlt)
      simp only [Bool.or_eq_true, decide_eq_true_eq] at h1
      rcases h1 with h1 | h1
      · omega
      · obtain ⟨j, hj, hj2⟩ := List.any_eq_true.1 h1
        simp only [Bool.and_eq_true, decide_eq_true_eq] at hj2
        obtain ⟨o', ho', e, he, hb, hon⟩ := Region.waitsFor_spec hj2.2
        have : o' = ot := Option.some.inj (ho'.symm.trans hot)
        subst this
        have h2 := hall e he hb
        rw [hon, getD_both (inv.tail j hj2.1 (by have := List.mem_range.1 hj; omega))] at h2
        cases h2
def growTB (l : List Oper) (n : Nat) : Bool :=
  Region.noSelect l.toArray && decide (n ≤ l.length) && (decide (n = l.length) || Region.sinkB .any l.toArray n && treeTB l.toArray n) && looksB (l.take n) l.toArray && apartB (l.take n) && backB l.toArray
/-- The first n of m are done. -/
def listedN (m n : Nat) : Array Bool := ((List.range m).map fun i => decide (i < n)).toArray
end Go.Proofs.YtbicfaiabpcgfaaGreatDoor
