/- Texts of this claim, merged; no condition. -/
import Derived.Test.YthpallkphamobaaGreatDoorJ02
import Derived.Test.YthpallkphamobaaGreatDoorJ14
import Derived.Test.YthpallkphamobaaGreatDoorJ03
set_option linter.all false
namespace Go.Proofs.YthpallkphamobaaGreatDoor
open Go.RowKit

theorem own_grown {w w' : World} {base : Nat} {e : TypeId} {size : Nat} {v : Value} {n : Nat} {xs : List Value} (h : w.ownsRow base e size v n xs) (hg : w.grownBy w' none) : w'.ownsRow base e size v n xs :=
  own_same h fun g _ hl => hg.block g hl (fun e => by cases e)
theorem run_append_own_keep {P : Program} (w : World) (base : Nat) (t ty e : TypeId) (i : TypeInfo) (z : Value) (size bytes : Nat) (ht : P.underlying t = some (.slice e)) (hi : P.info? e = some i) (hz : i.zero = some z)
    (hsize : i.size = size) (hby : i.bytes = bytes) (hzs : z.cells.size = size) (hsz : 0 < size) (v : Value) (n : Nat) (xs : List Value) (hown : w.ownsRow base e size v n xs)
    (a : Addr) (m c : Nat) (news : List Value) (hl : news.length = m * size) (hnews : ∀ j u, news[j]? = some u → w.cell? (a.add j) = some u) (h1 : ∀ u ∈ news, u.oneCell' = true)
    (h63 : n + m ≤ maxLen) (hbytes : (n + m) * bytes ≤ 140737488355328) (hbase : base ≤ w.heap.size) :
    ∃ v' w', (Builtin.append_ #[t, t] ty #[v, .slice (some a) m c]).run P w = .ok v' w' ∧ w'.ownsRow base e size v' (n + m) (xs ++ news) ∧ w.grownBy w' v.ownBlock ∧
      (v'.ownBlock = v.ownBlock ∨ ∀ k, v'.ownBlock = some k → w.heap.size ≤ k) ∧ w'.ownsRow base e size v n xs ∧ ∀ u, w.ownsRow base e size u (n + m) (xs ++ news) → w'.ownsRow base e size u (n + m) (xs ++ news) := by
  obtain ⟨v', w', hr, ho, hg, hbk⟩ := run_append_own_blkV (P := P) w base t ty e i z size bytes ht hi hz hsize hby hzs hsz v n xs hown a m c news hl hnews h1 h63 hbytes hbase
  refine ⟨v', w', hr, ho, hg, hbk, ?_⟩
  have none_case : w.grownBy w' none → w'.ownsRow base e size v n xs ∧ ∀ u, w.ownsRow base e size u (n + m) (xs ++ news) → w'.ownsRow base e size u (n + m) (xs ++ news) := fun h => ⟨own_grown hown h, fun u hu => own_grown hu h⟩
  rcases hown.2 with ⟨rfl, rfl⟩ | ⟨g, cap, cur, rfl, hbg, hgg, hnc, hcm, hcs, htake⟩
  · exact none_case hg
  · by_cases hroom : n + m ≤ cap
    · have hcells : ∀ j, j < cur.size → w.cell? ⟨g, j, none⟩ = cur[j]? := fun j _ => by rw [cell_of_row w g j cur e (0, 0) hgg]
      have hmul : (n + m) * size ≤ cap * size := Nat.mul_le_mul_right _ hroom
      rw [Nat.add_mul] at hmul
      have hr2 := run_append_room_cells (P := P) w t ty e i ht hi g 0 n cap a m c news (by rw [hsize, hl]) hnews h1 hroom (fun j hj => by
        have hlt : 0 + n * i.size + j < cur.size := by rw [hsize, hcs]; omega
        rw [hcells _ hlt, Array.getElem?_eq_getElem hlt]; rfl) (fun j hj => frozen_of_row w g _ cur e hgg)
      rw [hr] at hr2
      obtain ⟨rfl, -⟩ : v' = .slice (some ⟨g, 0, none⟩) (n + m) cap ∧ w' = _ := by injection hr2; exact ⟨by assumption, by assumption⟩
      rcases ho.2 with ⟨h0, -⟩ | ⟨g', cap', cur', e0, hbg', hgg', hnc', hcm', hcs', htake'⟩
      · cases h0
      · injection e0 with e1 e2 e3
        injection e1 with e1
        injection e1 with e1
        subst e1 e3
        refine ⟨⟨hown.1, .inr ⟨g, cap, cur', rfl, hbg, hgg', hnc, hcm, hcs', ?_⟩⟩, fun u hu => ?_⟩
        · have := congrArg (List.take (n * size)) htake'
          rw [List.take_take, Nat.min_eq_left (Nat.mul_le_mul_right _ (by omega)), ← hown.1, List.take_left] at this
          rw [← hown.1]; exact this
        · rcases hu.2 with ⟨rfl, h0⟩ | ⟨g2, cap2, cur2, rfl, hbg2, hgg2, hnc2, hcm2, hcs2, htake2⟩
          · exact ⟨hu.1, .inl ⟨rfl, h0⟩⟩
          · by_cases hgq : g2 = g
            · subst hgq
              rw [hgg] at hgg2
              injection hgg2 with h2
              injection h2 with h2
              subst h2
              exact ⟨hu.1, .inr ⟨g2, cap2, cur', rfl, hbg2, hgg', hnc2, hcm2, by rw [hcs', ← hcs, hcs2], htake'⟩⟩
            · exact own_same hu fun k hk hlk => hg.block k hlk fun e => by
                have e2 : g2 = k := by simpa [Value.ownBlock] using hk
                have e3 : k = g := by simpa [Value.ownBlock] using e
                exact hgq (e2.trans e3)
    · obtain ⟨v2, w2, hr2, -, hg2⟩ := run_append_arg_grows (P := P) w t ty e i z size bytes ht hi hz hsize hby hzs hsz ⟨g, 0, none⟩ n cap xs hown.1 (fun j u hj => hown.cells (g := g) rfl j u hj) a m c news hl hnews (by omega) h63 hbytes
      rw [hr] at hr2
      obtain ⟨rfl, rfl⟩ : v' = v2 ∧ w' = w2 := by injection hr2; exact ⟨by assumption, by assumption⟩
      exact none_case hg2
end Go.Proofs.YthpallkphamobaaGreatDoor
namespace Go.Proofs.YthpallkphamobaaGreatDoor
open Go.RowKit

/-- Each operation behind the n-th waits for one of them, or for the n-th. -/
def treeTB (ops : Array Oper) (n : Nat) : Bool := (List.range ops.size).all fun t => decide (t ≤ n) || (List.range t).any fun j => decide (n ≤ j) && Region.waitsFor .any ops t j
theorem tail_waitsT {ops : Array Oper} {n : Nat} {listed : Array Bool} (hs : Region.sinkB .any ops n = true) (hc : treeTB ops n = true) (hn : n < ops.size) (inv : HeadInv .any ops n listed) :
    ∀ (d i : Nat), n - i = d → i < n → listed.getD i true = false → ∀ t, n ≤ t → t ∉ Region.ready .any ops listed := by
  intro d
  induction d using Nat.strongRecOn with
  | _ d ih =>
    intro i hd hi hun t ht hr
    obtain ⟨_, ot, hot, hall⟩ := mem_ready.1 hr
    have htlt : t < ops.size := (Array.getElem?_eq_some_iff.1 hot).1
    by_cases htn : t = n
    · subst htn
      have h1 := List.all_eq_true.1 hs i (List.mem_range.2 hi)
      obtain ⟨j, hj, hj2⟩ := List.any_eq_true.1 h1
      simp only [Bool.and_eq_true, decide_eq_true_eq] at hj2
      obtain ⟨oj, hoj, e, he, hb, hon⟩ := Region.waitsFor_spec hj2.2
      have hjle : j ≤ t := by have := List.mem_range.1 hj; omega
      by_cases hjt : j = t
      · subst hjt
        have : oj = ot := Option.some.inj (hoj.symm.trans hot)
        subst this
        have h2 := hall e he hb
        rw [hon, getD_both hun] at h2
        cases h2
      · cases hl : listed.getD j false with
        | true =>
          have h2 := inv.closed j oj hoj hl e he hb
          rw [hon, getD_both hun] at h2
          cases h2
        | false =>
          have hjs : j < listed.size := by rw [inv.size]; omega
          exact ih (t - j) (by omega) j rfl (by omega) (getD_in hjs hl) t (Nat.le_refl _) hr
    · have h1 := List.all_eq_true.1 hc t (List.mem_range.2 htlt)
      simp only [Bool.or_eq_true, decide_eq_true_eq] at h1
      rcases h1 with h1 | h1
      · omega
      · obtain ⟨j, hj, hj2⟩ := List.any_eq_true.1 h1
        simp only [Bool.and_eq_true, decide_eq_true_eq] at hj2
        obtain ⟨o', ho', e, he, hb, hon⟩ := Region.waitsFor_spec hj2.2
        have : o' = ot := Option.some.inj (ho'.symm.trans hot)
        subst this
        have h2 := hall e he hb
        rw [hon, getD_both (inv.tail j hj2.1 (by have := List.mem_range.1 hj; omega))] at h2
        cases h2
def growTB (l : List Oper) (n : Nat) : Bool :=
  Region.noSelect l.toArray && decide (n ≤ l.length) && (decide (n = l.length) || Region.sinkB .any l.toArray n && treeTB l.toArray n) && looksB (l.take n) l.toArray && apartB (l.take n) && backB l.toArray
/-- The first n of m are done. -/
def listedN (m n : Nat) : Array Bool := ((List.range m).map fun i => decide (i < n)).toArray
end Go.Proofs.YthpallkphamobaaGreatDoor
namespace Go.Proofs.YthpallkphamobaaGreatDoor
open Go.RowKit

/-- What is told of a value: what it is, and what memory holds of it, however memory goes on by Sty. -/
structure ToldS (Sty : World → World → Prop) where
  is : Value → Prop
  mem : Value → World → Prop
  some_ : ∃ v, is v
  stays : ∀ v W W', mem v W → Sty W W' → mem v W'
def fixdS {Sty : World → World → Prop} (v : Value) : ToldS Sty := ⟨fun u => u = v, fun _ _ => True, ⟨v, rfl⟩, fun _ _ _ _ _ => trivial⟩
def anyTS {Sty : World → World → Prop} : ToldS Sty := ⟨fun _ => True, fun _ _ => True, ⟨undef, trivial⟩, fun _ _ _ _ _ => trivial⟩
def toldsS {Sty : World → World → Prop} (Ls : List (ToldS Sty)) (j : Nat) : ToldS Sty := Ls.getD j anyTS
/-- How memory goes on: Sty, and what holds ahead of (false) and behind (true) the operation that writes; what holds where a call gives up. -/
structure Goes where
  Sty : World → World → Prop
  Sg : Bool → World → Prop
  Qp : List PanicEntry → World → Prop
  k : Nat
  refl : ∀ W, Sty W W
  trans : ∀ {A B C}, Sty A B → Sty B C → Sty A C
  below : ∀ {W W'}, Below W.heap.size W W' → Sty W W'
  keeps : ∀ b {W W'}, Sg b W → Below W.heap.size W W' → Sg b W'
def growsUponS (P : Program) (G : Goes) (W : World) (b : Bool) (V : Value → World → Prop) : Result Next → Prop
  | .ok (.value u) W' => V u W' ∧ G.Sty W W' ∧ G.Sg b W'
  | .ok .skip W' => V undef W' ∧ G.Sty W W' ∧ G.Sg b W'
  | .ok (.enter f args) W1 => Calls P f args W1 fun e W' => (∃ v, e = .returned v ∧ V v W' ∧ G.Sty W W' ∧ G.Sg b W') ∨ (∃ ch, e = .panicked ch ∧ G.Qp ch W')
  | _ => False
@[go_sem] theorem growsUponS_value (P : Program) (G : Goes) (W W' : World) (b : Bool) (u : Value) (V : Value → World → Prop) : growsUponS P G W b V (.ok (.value u) W') = (V u W' ∧ G.Sty W W' ∧ G.Sg b W') := rfl
@[go_sem] theorem growsUponS_skip (P : Program) (G : Goes) (W W' : World) (b : Bool) (V : Value → World → Prop) : growsUponS P G W b V (.ok .skip W') = (V undef W' ∧ G.Sty W W' ∧ G.Sg b W') := rfl
@[go_sem] theorem growsUponS_enter (P : Program) (G : Goes) (W W' : World) (b : Bool) (V : Value → World → Prop) (f : FuncId) (args : Array Value) : growsUponS P G W b V (.ok (.enter f args) W') = Calls P f args W' fun e W'' => (∃ v, e = .returned v ∧ V v W'' ∧ G.Sty W W'' ∧ G.Sg b W'') ∨ (∃ ch, e = .panicked ch ∧ G.Qp ch W'') := rfl
def GrowsAtS (P : Program) (ops : Array Oper) (G : Goes) (w : World) (o : Oper) (sp : Bool) (F : World → Prop) (T : ToldS G.Sty) (a : Act) : Prop :=
  (Region.wanted o (yielded ops a.tmps) = true ∧ ∀ b W, (sp = true → b = false) → G.Sg b W → G.Sty w W → F W → growsUponS P G W (sp || b) (fun v W' => T.is v ∧ T.mem v W') ((execOp a.eval o).run P W)) ∨
  (Region.wanted o (yielded ops a.tmps) = false ∧ sp = false ∧ T.is undef ∧ ∀ W, T.mem undef W)
def wpGrowS (P : Program) (ops : Array Oper) (G : Goes) (w : World) (L : Nat → ToldS G.Sty) (K : List Value → Act → Prop) : List Oper → List Value → Act → Prop
  | [], s, a => K s a
  | o :: rest, s, a => GrowsAtS P ops G w o (decide (s.length = G.k)) (fun W => ∀ j, waitsB o j = true → j < s.length → (L j).mem (s.getD j undef) W) (L s.length) a ∧ ∀ v, (L s.length).is v → wpGrowS P ops G w L K rest (s ++ [v]) (a.put o.dst v)
section
variable {P : Program} {ops : Array Oper} {G : Goes} {w : World} {L : Nat → ToldS G.Sty} {K : List Value → Act → Prop} {o : Oper} {rest : List Oper} {s : List Value} {a : Act}
theorem wpGrowS_nil (h : K s a) : wpGrowS P ops G w L K [] s a := h
/-- A value that is fixed, memory having grown alone. -/
theorem wpGrowS_fix (v : Value) (hL : L s.length = fixdS v) (hk : decide (s.length = G.k) = false) (hw : Region.wanted o (yielded ops a.tmps) = true)
    (hv : ∀ b W, G.Sg b W → G.Sty w W → (∀ j, waitsB o j = true → j < s.length → (L j).mem (s.getD j undef) W) → growsUpon P W v ((execOp a.eval o).run P W)) (h : wpGrowS P ops G w L K rest (s ++ [v]) (a.put o.dst v)) : wpGrowS P ops G w L K (o :: rest) s a := by
  refine ⟨.inl ⟨hw, fun b W _ hS hb hF => ?_⟩, fun u hu => ?_⟩
  · have := hv b W hS hb hF
    generalize (execOp a.eval o).run P W = r at this
    rw [hL, hk]
    cases r with
    | ok n W1 =>
      cases n <;> simp only [growsUpon] at this <;> simp only [growsUponS]
      case value u => exact ⟨⟨this.1, trivial⟩, G.below this.2, by simpa using G.keeps b hS this.2⟩
      case skip => exact ⟨⟨this.1.symm, trivial⟩, G.below this.2, by simpa using G.keeps b hS this.2⟩
      case enter f args => exact this.mono fun e W' ⟨he, hb2⟩ => .inl ⟨v, he, ⟨rfl, trivial⟩, G.below hb2, by simpa using G.keeps b hS hb2⟩
    | halt x W1 => simp only [growsUpon] at this
  · rw [hL] at hu
    have : u = v := hu
    subst this
    exact h
/-- A value of which something is told; the call may give up. -/
theorem wpGrowS_any (T : ToldS G.Sty) (hL : L s.length = T) (hw : Region.wanted o (yielded ops a.tmps) = true)
    (hv : ∀ b W, (decide (s.length = G.k) = true → b = false) → G.Sg b W → G.Sty w W → (∀ j, waitsB o j = true → j < s.length → (L j).mem (s.getD j undef) W) → growsUponS P G W (decide (s.length = G.k) || b) (fun v W' => T.is v ∧ T.mem v W') ((execOp a.eval o).run P W))
    (h : ∀ v, T.is v → wpGrowS P ops G w L K rest (s ++ [v]) (a.put o.dst v)) : wpGrowS P ops G w L K (o :: rest) s a := by
  subst hL
  exact ⟨.inl ⟨hw, hv⟩, h⟩
end
theorem wpGrowS_values {P : Program} {ops : Array Oper} {G : Goes} {w : World} {L : Nat → ToldS G.Sty} {K : List Value → Act → Prop} : ∀ (l : List Oper) (s : List Value) (a : Act), wpGrowS P ops G w L K l s a →
    ∀ vs : Nat → Value, (∀ k, (L k).is (vs k)) → (∀ k, k < s.length → s.getD k undef = vs k) →
    (∀ (i : Nat) (o : Oper), l[i]? = some o → GrowsAtS P ops G w o (decide (s.length + i = G.k)) (fun W => ∀ j, waitsB o j = true → j < s.length + i → (L j).mem (vs j) W) (L (s.length + i)) (layT l (fun j => vs (s.length + j)) i a)) ∧
    ∃ s' : List Value, s'.length = s.length + l.length ∧ (∀ k, k < s'.length → s'.getD k undef = vs k) ∧ K s' (layT l (fun j => vs (s.length + j)) l.length a)
  | [], s, a, h, vs, _, hs => ⟨fun i o ho => by simp at ho, s, by simp, hs, h⟩
  | o :: l, s, a, ⟨hg, h⟩, vs, hvs, hs => by
    have h2 := h (vs s.length) (hvs _)
    obtain ⟨h3, s', h4, h5, h6⟩ := wpGrowS_values l (s ++ [vs s.length]) _ h2 vs hvs (fun k hk => by
      rw [List.length_append] at hk
      by_cases e : k < s.length
      · rw [← hs k e]
        simp only [List.getD_eq_getElem?_getD]
        rw [List.getElem?_append_left e]
      · obtain rfl : k = s.length := by simp at hk; omega
        simp [List.getD_eq_getElem?_getD])
    have e1 : (fun j => vs ((s ++ [vs s.length]).length + j)) = fun j => vs (s.length + (j + 1)) := by funext j; simp; congr 1; omega
    rw [e1] at h3 h6
    refine ⟨?_, s', by simp at h4 ⊢; omega, h5, h6⟩
    rintro (_ | i) o' ho
    · obtain rfl : o = o' := by simpa using ho
      show GrowsAtS P ops G w o _ _ (L s.length) a
      unfold GrowsAtS at hg ⊢
      rcases hg with ⟨hw, hv⟩ | hn
      · exact .inl ⟨hw, fun b W hbk hS hb hF => hv b W hbk hS hb fun j hj e => by rw [hs j e]; exact hF j hj (by omega)⟩
      · exact .inr hn
    · have := h3 i o' (by simpa using ho)
      rw [show (s ++ [vs s.length]).length + i = s.length + (i + 1) by simp; omega] at this
      exact this
theorem wpOp_of_growsS {P : Program} {ops : Array Oper} {G : Goes} {Q : Exit → Act → World → Prop} {i : Nat} {o : Oper} {sp b : Bool} {F : World → Prop} {T : ToldS G.Sty} {a : Act} {w W : World} {K : Act → World → Prop} (ho : ops[i]? = some o) (h : GrowsAtS P ops G w o sp F T a) (hbk : sp = true → b = false) (hS : G.Sg b W) (hb : G.Sty w W) (hF : F W)
    (hQ : ∀ ch W', G.Qp ch W' → Q (.panic ch) a W')
    (hK : ∀ v W', T.is v → T.mem v W' → G.Sty W W' → G.Sg (sp || b) W' → K (a.put o.dst v) W') : wpOp P ops Q i K a W := by
  unfold wpOp
  simp only [ho]
  rcases h with ⟨hw, hv⟩ | ⟨hw, hs, hi, hm⟩
  · simp only [hw, if_true]
    refine .inl ?_
    unfold Oper.wp
    have h2 := hv b W hbk hS hb hF
    generalize (execOp a.eval o).run P W = r at h2
    cases r with
    | ok n W1 =>
      cases n <;> simp only [growsUponS] at h2 <;> simp only [Oper.upon]
      case value u => exact hK _ _ h2.1.1 h2.1.2 h2.2.1 h2.2.2
      case skip => exact hK _ _ h2.1.1 h2.1.2 h2.2.1 h2.2.2
      case enter f args =>
        refine h2.mono fun e W'' h3 => ?_
        rcases h3 with ⟨v, he, ⟨h3, h4⟩, h5, h6⟩ | ⟨ch, he, h3⟩
        · subst he; exact hK _ _ h3 h4 h5 h6
        · subst he; exact hQ _ _ h3
    | halt x W1 => simp only [growsUponS] at h2
  · simp only [hw, Bool.false_eq_true, if_false]
    exact hK _ _ hi (hm W) (G.refl W) (by rw [hs]; simpa using hS)

/-- The slots to which the first n operations do not write are as they were. -/
def RestS (l : List Oper) (n : Nat) (a x : Act) : Prop := ∀ t, ((l.take n).all fun o => o.dst != some t) = true → x.tmps[t]? = a.tmps[t]?
theorem grow_keyS {P : Program} {l : List Oper} {a : Act} {w : World} (G : Goes) (n : Nat) (L : Nat → ToldS G.Sty) (hB : growTB l n = true) (Tail : Act → World → Prop) (Any : Nat → Array Bool → Act → World → Prop)
    (hstep : ∀ (m : Nat) (listed : Array Bool) (x : Act) (W : World), Region.ready .any l.toArray listed ≠ [] →
      (∀ i ∈ Region.ready .any l.toArray listed, ∃ (o : Oper) (sp b : Bool) (F : World → Prop) (T : ToldS G.Sty), l.toArray[i]? = some o ∧ F W ∧ (sp = true → b = false) ∧ G.Sg b W ∧ G.Sty w W ∧ (x.defers = a.defers ∧ RestS l n a x) ∧ GrowsAtS P l.toArray G w o sp F T x ∧ ∀ v W', T.is v → T.mem v W' → G.Sty W W' → G.Sg (sp || b) W' → Any m (listed.setIfInBounds i true) (x.put o.dst v) W') → Any (m + 1) listed x W)
    (hend : ∀ (x : Act) (W : World), Tail x W → Any (l.length - n) (listedN l.length n) x W)
    (h0S : G.Sg false { w with drawn := w.drawn + 1 }) (h0s : G.Sty w { w with drawn := w.drawn + 1 })
    (h : wpGrowS P l.toArray G w L (fun s a' => ∀ W, G.Sty w W → G.Sg (decide (G.k < n)) W → (∀ j, j < n → (L j).mem (s.getD j undef) W) → Tail a' W) (l.take n) [] a) : Any l.toArray.size (Array.replicate l.toArray.size false) a { w with drawn := w.drawn + 1 } := by
  simp only [growTB, Bool.and_eq_true, decide_eq_true_eq, Bool.or_eq_true] at hB
  obtain ⟨⟨⟨⟨⟨hsel, hn⟩, htail⟩, hlook⟩, hap⟩, hback⟩ := hB
  have hap := apartB_spec hap
  have htl : (l.take n).length = n := by simp; omega
  have hdl : (l.drop n).length = l.length - n := by simp
  have hsel' : ∀ (j : Nat) (o : Oper) cs b, l.toArray[j]? = some o → o.op ≠ .select cs b := Region.noSelect_spec hsel
  have back : ∀ (j : Nat) (o : Oper), l[j]? = some o → ∀ e ∈ o.after, Region.binds .any e = true → e.on < j := fun j o hj e he hb => by
    have hj2 : (o, j) ∈ l.zipIdx := List.mem_iff_getElem?.2 ⟨j, by simp [hj]⟩
    have h1 := List.all_eq_true.1 hback _ (by simpa using hj2)
    have h2 := (Array.all_eq_true_iff_forall_mem.1 h1) e he
    simp only [hb, Bool.not_true, Bool.false_or, decide_eq_true_eq] at h2
    exact h2
  have key : ∀ (m : Nat) (listed : Array Bool) (x : Act) (W : World) (vs : Nat → Value), HeadInv .any l.toArray n listed → (∀ k, (L k).is (vs k)) → (∀ k, k < n → listed.getD k false = true → (L k).mem (vs k) W) →
      Laid (l.take n) vs a (fun j => listed.getD j false = true) x → G.Sty w W → G.Sg (listed.getD G.k false) W →
      (List.range n).countP (fun i => !listed.getD i true) = m → Any (m + (l.length - n)) listed x W := by
    intro m
    induction m with
    | zero =>
      intro listed x W vs inv hvs hmem hx hb hSg hc
      have hall : ∀ i, i < n → listed.getD i true = true := fun i hi => by
        have := List.countP_eq_zero.1 hc i (List.mem_range.2 hi)
        simpa using this
      have hsz : listed.size = l.length := by have := inv.size; simpa using this
      have hL : listed = ((List.range l.length).map fun i => decide (i < n)).toArray := by
        apply Array.ext
        · simp [hsz]
        · intro i h1 h2
          simp
          by_cases hi : i < n
          · have := hall i hi
            simp [Array.getD, h1] at this
            simp [this, hi]
          · have := inv.tail i (by omega) (by simpa using (by omega : i < l.length))
            simp [Array.getD, h1] at this
            simp [this, hi]
      obtain ⟨-, s', hs1, hs2, hK⟩ := wpGrowS_values _ _ _ h vs hvs (fun k hk => by simp at hk)
      simp only [List.length_nil, Nat.zero_add] at hK hs1
      rw [htl] at hK hs1
      have hx2 : x = layT (l.take n) (fun j => vs j) n a := Laid.eq (hx.congr (D' := (· < n)) fun j hj => by
        rw [htl] at hj
        have h1 := hall j hj
        have hjs : j < listed.size := by omega
        simp [Array.getD, hjs] at h1 ⊢
        simp [h1, hj]) (layT_laid hap vs a n (by omega))
      have hSg2 : G.Sg (decide (G.k < n)) W := by
        have e : listed.getD G.k false = decide (G.k < n) := by
          by_cases hk : G.k < n
          · have h1 := hall _ hk
            have hks : G.k < listed.size := by omega
            simp [Array.getD, hks] at h1 ⊢
            simp [h1, hk]
          · rcases Nat.lt_or_ge G.k l.length with hl2 | hl2
            · have := inv.tail G.k (by omega) (by simpa using hl2)
              have hks : G.k < listed.size := by omega
              simp [Array.getD, hks] at this ⊢
              simp [this, hk]
            · have hks : ¬ G.k < listed.size := by omega
              simp [Array.getD, hks, hk]
        rw [← e]; exact hSg
      have hw := hK W hb hSg2 (fun j hj => by
        rw [hs2 j (by omega)]
        refine hmem j hj ?_
        have h1 := hall j hj
        have hjs : j < listed.size := by omega
        simp [Array.getD, hjs] at h1 ⊢
        exact h1)
      rw [← hx2] at hw
      rw [Nat.zero_add]
      have hL2 : listed = listedN l.length n := hL
      rw [hL2]
      exact hend x W hw
    | succ m ih =>
      intro listed x W vs inv hvs hmem hx hb hSg hc
      have hsz : listed.size = l.length := by have := inv.size; simpa using this
      rw [show m + 1 + (l.length - n) = (m + (l.length - n)) + 1 by omega]
      refine hstep _ _ _ _ (fun hr => ?_) (fun i hi => ?_)
      · exfalso
        have hall : ∀ i, i < n → listed.getD i true = true := by
          intro i
          induction i using Nat.strongRecOn with
          | _ i ihs =>
            intro hi
            have hil : i < l.length := by omega
            have ho : l[i]? = some l[i] := by simp
            cases hx : listed.getD i true with
            | true => rfl
            | false =>
              have : i ∈ Region.ready .any l.toArray listed := mem_ready.2 ⟨hx, l[i], by simp, fun e he hbd => by
                have hlt := back i _ ho e he hbd
                have h1 := ihs e.on hlt (by omega)
                have hes : e.on < listed.size := by omega
                simp [Array.getD, hes] at h1 ⊢
                exact h1⟩
              rw [hr] at this; cases this
        have : (List.range n).countP (fun i => !listed.getD i true) = 0 := List.countP_eq_zero.2 fun i hi => by simp [hall i (List.mem_range.1 hi)]
        omega
      · obtain ⟨hun, o, ho, hall⟩ := mem_ready.1 hi
        have hil : i < l.length := by have := (Array.getElem?_eq_some_iff.1 ho).1; simpa using this
        have hin : i < n := by
          rcases Nat.lt_or_ge i n with h1 | h1
          · exact h1
          · rcases htail with ht | ⟨hs, hcn⟩
            · omega
            · obtain ⟨k, hk, hku⟩ : ∃ k, k < n ∧ listed.getD k true = false := by
                refine Classical.byContradiction fun hno => ?_
                have : (List.range n).countP (fun i => !listed.getD i true) = 0 := List.countP_eq_zero.2 fun k hk => by
                  have : ¬ listed.getD k true = false := fun h => hno ⟨k, List.mem_range.1 hk, h⟩
                  simpa using this
                omega
              exact absurd hi (tail_waitsT hs hcn (by simpa using (by omega : n < l.length)) inv _ k rfl hk hku i h1)
        have hol : l[i]? = some o := by simpa using ho
        have hot : (l.take n)[i]? = some o := by rw [List.getElem?_take_of_lt hin]; exact hol
        have hlaid := layT_laid hap vs a i (by omega : i ≤ (l.take n).length)
        have hsame : ∀ t ∈ o.looksAt l.toArray, x.tmps[t]? = (layT (l.take n) vs i a).tmps[t]? := by
          intro t ht
          by_cases hx2 : ∃ (j : Nat) (o' : Oper), (l.take n)[j]? = some o' ∧ o'.dst = some t
          · obtain ⟨j, o', hj, hd⟩ := hx2
            obtain ⟨e, he, hbd, hon⟩ := looksB_spec hlook hot hj hd ht
            have hdone := hall e he hbd
            have hlt := back i o hol e he hbd
            rw [hon] at hdone hlt
            by_cases hts : t < a.tmps.size
            · rw [hx.done j o' t hj hdone hd hts, hlaid.done j o' t hj hlt hd hts]
            · have g1 : x.tmps.size ≤ t := Nat.le_trans (Nat.le_of_eq hx.size) (Nat.le_of_not_lt hts)
              have g2 : (layT (l.take n) vs i a).tmps.size ≤ t := Nat.le_trans (Nat.le_of_eq hlaid.size) (Nat.le_of_not_lt hts)
              rw [Array.getElem?_eq_none g1, Array.getElem?_eq_none g2]
          · have hn2 : ∀ (D : Nat → Prop) (j : Nat) (o' : Oper), (l.take n)[j]? = some o' → D j → o'.dst ≠ some t := fun D j o' hj _ hd => hx2 ⟨j, o', hj, hd⟩
            rw [hx.else_ t (hn2 _), hlaid.else_ t (hn2 _)]
        obtain ⟨he1, he2⟩ := exec_same (hsel' i o · · ho) hsame
        have hgx : GrowsAtS P l.toArray G w o (decide (i = G.k)) (fun W => ∀ j, waitsB o j = true → j < i → (L j).mem (vs j) W) (L i) x := by
          have := (wpGrowS_values _ _ _ h vs hvs (fun k hk => by simp at hk)).1 i o hot
          simp only [List.length_nil, Nat.zero_add] at this ⊢
          unfold GrowsAtS at this ⊢
          rw [he1, he2]
          exact this
        refine ⟨o, decide (i = G.k), listed.getD G.k false, _, L i, ho, (fun j hj hji => ?_), (fun hsp => ?_), hSg, hb, ⟨hx.defers, fun t ht => hx.else_ t fun j o hj _ hd => by have := List.all_eq_true.1 ht o (List.mem_iff_getElem?.2 ⟨j, hj⟩); simp [hd] at this⟩, hgx, fun v W' hvi hvm hb' hSg' => ih _ _ W' (fun k => if k = i then v else vs k) (inv.set hi hin) (fun k => ?_) (fun k hk hkl => ?_) ?_ (G.trans hb hb') ?_ ?_⟩
        · refine hmem j (by omega) ?_
          obtain ⟨e, he, hbe⟩ := Array.any_eq_true'.1 hj
          simp only [Bool.and_eq_true, beq_iff_eq] at hbe
          have := hall e he hbe.1
          rw [hbe.2] at this
          exact this
        · have e := of_decide_eq_true hsp
          subst e
          have his : G.k < listed.size := by omega
          simp [Array.getD, his] at hun ⊢
          exact hun
        · by_cases e : k = i
          · subst e; simpa using hvi
          · simpa [e] using hvs k
        · by_cases e : k = i
          · subst e; simpa using hvm
          · rw [getD_set_ne false (Ne.symm e)] at hkl
            simpa [e] using (L k).stays _ _ _ (hmem k hk hkl) hb'
        · have hx' : Laid (l.take n) (fun k => if k = i then v else vs k) a (fun j => listed.getD j false = true) x := ⟨hx.defers, hx.size, fun j o' d hj hD hd hlt => by
            have hne : j ≠ i := fun e => by
              subst e
              have his : j < listed.size := by omega
              simp [Array.getD, his] at hun hD
              rw [hun] at hD; cases hD
            simp only [hne, if_false]
            exact hx.done j o' d hj hD hd hlt, hx.else_⟩
          have hput := hx'.put hap hot
          simp only [if_true] at hput
          refine hput.congr fun j hj => ?_
          by_cases e : j = i
          · subst e
            have : j < listed.size := by omega
            simp [Array.getD, this]
          · rw [getD_set_ne false (Ne.symm e)]; simp [e]
        · by_cases e : i = G.k
          · have his : G.k < listed.size := by omega
            rw [e]
            simp only [e, decide_true, Bool.true_or] at hSg'
            simpa [Array.getD, his] using hSg'
          · rw [getD_set_ne false e]
            simpa [e] using hSg'
        · have his : i < listed.size := by omega
          have hcnt : ∀ (r : List Nat), r.Nodup → i ∈ r → r.countP (fun j => !listed.getD j true) = r.countP (fun j => !(listed.setIfInBounds i true).getD j true) + 1 := by
            intro r
            induction r with
            | nil => intro _ h; cases h
            | cons y r ihr =>
              intro hnd hm
              rw [List.countP_cons, List.countP_cons]
              have hnd2 := List.nodup_cons.1 hnd
              by_cases e : y = i
              · subst e
                have h1 : r.countP (fun j => !listed.getD j true) = r.countP (fun j => !(listed.setIfInBounds y true).getD j true) := List.countP_congr fun j hj => by
                  have hne : y ≠ j := fun e => hnd2.1 (e ▸ hj)
                  rw [getD_set_ne true hne]
                rw [h1, hun]
                simp [Array.getD, his]
              · have hm2 : i ∈ r := by
                  rcases List.mem_cons.1 hm with h | h
                  · exact absurd h.symm e
                  · exact h
                rw [ihr hnd2.2 hm2, getD_set_ne true (Ne.symm e)]
                omega
          have := hcnt (List.range n) List.nodup_range (List.mem_range.2 hin)
          omega
  have h0 := key n (Array.replicate l.toArray.size false) a { w with drawn := w.drawn + 1 } (fun k => (L k).some_.choose)
    ⟨by simp, fun j oj _ hl => (by rw [getD_replicate_false] at hl; cases hl), fun t _ ht => getD_in (by simpa using ht) (getD_replicate_false _ _)⟩
    (fun k => (L k).some_.choose_spec) (fun k _ hk => by rw [getD_replicate_false] at hk; cases hk)
    (Laid.refl _ _ _ _ fun j => by rw [getD_replicate_false]; simp) h0s (by rw [getD_replicate_false]; exact h0S) (by
      have : (List.range n).countP (fun i => !(Array.replicate l.toArray.size false).getD i true) = (List.range n).length := List.countP_eq_length.2 fun i hi => by
        have hi := List.mem_range.1 hi
        have : i < l.length := by omega
        simp [Array.getD, this]
      simpa using this)
  rw [show n + (l.length - n) = l.toArray.size by simp; omega] at h0
  exact h0

theorem growTB_of {l : List Oper} {n : Nat} (h : growB l n = true) : growTB l n = true := by
  simp only [growB, growTB, Bool.and_eq_true, Bool.or_eq_true, decide_eq_true_eq] at h ⊢
  obtain ⟨⟨⟨⟨⟨⟨h1, h2⟩, h3⟩, h4⟩, h5⟩, h6⟩, h7⟩ := h
  refine ⟨⟨⟨⟨⟨h1, h2⟩, h3.imp id fun h => ⟨h.1, ?_⟩⟩, h4⟩, h5⟩, h6⟩
  refine List.all_eq_true.2 fun t ht => ?_
  have := List.all_eq_true.1 h.2 t ht
  simp only [Bool.or_eq_true, decide_eq_true_eq] at this ⊢
  by_cases hn : t ≤ n
  · exact .inl hn
  · refine .inr (List.any_eq_true.2 ⟨t - 1, List.mem_range.2 (by omega), ?_⟩)
    simp only [Bool.and_eq_true, decide_eq_true_eq]
    exact ⟨by omega, this.resolve_left hn⟩
theorem growB_seq {l : List Oper} {n : Nat} (h : growB l n = true) : Region.seqB .any l.toArray (l.length - n) n (listedN l.length n) = true := by
  simp only [growB, Bool.and_eq_true] at h
  exact h.2
theorem wp_region_growSL {P : Program} {id : Nat} {l : List Oper} {Q : Exit → Act → World → Prop} {a : Act} {w : World} (G : Goes) (n : Nat) (Ls : List (ToldS G.Sty)) (hm : P.follows .mixedOrders = true) (hB : growB l n = true) (h0 : G.Sg false w) (hQ : ∀ x ch W, x.defers = a.defers → G.Qp ch W → Q (.panic ch) x W)
    (h : wpGrowS P l.toArray G w (toldsS Ls) (fun s a' => ∀ W, G.Sty w W → G.Sg (decide (G.k < n)) W → (∀ j, j < n → (toldsS Ls j).mem (s.getD j undef) W) → wpList P l.toArray Q (l.drop n) a' W) (l.take n) [] a) : (Code.region id l.toArray true).wp P Q a w := by
  have hdr : Below w.heap.size w { w with drawn := w.drawn + 1 } := xdrew (xrefl w)
  refine wp_region_any hm (grow_keyS G n (toldsS Ls) (growTB_of hB) (fun a' W => wpList P l.toArray Q (l.drop n) a' W) (wpAny P .any l.toArray Q) ?_ ?_ (G.keeps false h0 hdr) (G.below hdr) h)
  · rintro m listed x W hne hs
    refine ⟨fun hr => absurd hr hne, fun i hi => ?_⟩
    obtain ⟨o, sp, b, F, T, ho, hF, hbk, hS, hb, hd, hg, hk⟩ := hs i hi
    exact wpOp_of_growsS ho hg hbk hS hb hF (fun ch W' => hQ x ch W' hd.1) hk
  · intro x W hw
    have hdl : (l.drop n).length = l.length - n := by simp
    have := wpAny_of_seq (md := .any) (Q' := Q) (l.drop n) n (listedN l.length n) x W (fun j => by simp [List.getElem?_drop]) (by rw [hdl]; exact growB_seq hB) hw
    rwa [hdl] at this
/-- As wp_region_growSL; where a call gives up, it is told of all slots. -/
theorem wp_region_growSR {P : Program} {id : Nat} {l : List Oper} {Q : Exit → Act → World → Prop} {a : Act} {w : World} (G : Goes) (n : Nat) (Ls : List (ToldS G.Sty)) (hm : P.follows .mixedOrders = true) (hB : growB l n = true) (h0 : G.Sg false w) (hQ : ∀ x ch W, (x.defers = a.defers ∧ RestS l n a x) → G.Qp ch W → Q (.panic ch) x W)
    (h : wpGrowS P l.toArray G w (toldsS Ls) (fun s a' => ∀ W, G.Sty w W → G.Sg (decide (G.k < n)) W → (∀ j, j < n → (toldsS Ls j).mem (s.getD j undef) W) → wpList P l.toArray Q (l.drop n) a' W) (l.take n) [] a) : (Code.region id l.toArray true).wp P Q a w := by
  have hdr : Below w.heap.size w { w with drawn := w.drawn + 1 } := xdrew (xrefl w)
  refine wp_region_any hm (grow_keyS G n (toldsS Ls) (growTB_of hB) (fun a' W => wpList P l.toArray Q (l.drop n) a' W) (wpAny P .any l.toArray Q) ?_ ?_ (G.keeps false h0 hdr) (G.below hdr) h)
  · rintro m listed x W hne hs
    refine ⟨fun hr => absurd hr hne, fun i hi => ?_⟩
    obtain ⟨o, sp, b, F, T, ho, hF, hbk, hS, hb, hd, hg, hk⟩ := hs i hi
    exact wpOp_of_growsS ho hg hbk hS hb hF (fun ch W' => hQ x ch W' hd) hk
  · intro x W hw
    have hdl : (l.drop n).length = l.length - n := by simp
    have := wpAny_of_seq (md := .any) (Q' := Q) (l.drop n) n (listedN l.length n) x W (fun j => by simp [List.getElem?_drop]) (by rw [hdl]; exact growB_seq hB) hw
    rwa [hdl] at this
/-- What never comes to an end. -/
def neverT {Sty : World → World → Prop} : ToldS Sty := ⟨fun v => v = undef, fun _ _ => False, ⟨undef, rfl⟩, fun _ _ _ h _ => h⟩
end Go.Proofs.YthpallkphamobaaGreatDoor
