/- A loop over a function that hands on the elements of a list: what the rounds do is told by a state that hangs on blocks of its own. The program's code: sizes, the iterator over ops. A slice of the call's own that lies in a box: appended in the rounds of a loop over a function. The program's code: its marks. The program's words: small words. -/
import Derived.Test.YtijkdabmegbcjaaDoorM05
import Derived.Test.YtijkdabmegbcjaaDoorM14
import Derived.Test.YtijkdabmegbcjaaDoorM13
set_option linter.all false
namespace Go.Proofs.YtijkdabmegbcjaaDoor
open Go.RowKit Go.Shelf

theorem wpIn_scope_wide {P : Program} {c : Code} {Q : Exit → Act → World → Prop} {a : Act} {w : World} (h : c.wpIn Fence.wide 0 P (Exit.noGoto Q) a w) : (Code.scope c).wpIn Fence.wide 0 P Q a w :=
  wpIn_wide.2 (wp_scope_straight (wpIn_wide.1 h))
theorem Fac.any (R : Prop) : Fac (fun _ => False) (fun _ => R) := ⟨fun _ _ h _ _ => h, fun _ _ _ h => h.elim⟩
theorem Fac.only' {S O : Nat → Prop} {R : World → Prop} {W W' : World} (h : Fac S R) (hR : R W) (ho : Only O W W') (hO : ∀ k, S k → ¬ O k) : R W' := h.on.only hR ho hO
theorem take_snoc {α : Type} {l pre : List α} {x : α} {k : Nat} (hk : k ≤ l.length) (h : pre ++ [x] = l.take k) : ∃ hl : pre.length < l.length, l[pre.length] = x ∧ pre = l.take pre.length := by
  have hlen := congrArg List.length h
  rw [List.length_append, List.length_take, List.length_singleton] at hlen
  have hkk : k = pre.length + 1 := by omega
  have hl : pre.length < l.length := by omega
  refine ⟨hl, ?_, ?_⟩
  · rw [hkk, List.take_succ_eq_append_getElem hl] at h
    have := (List.append_inj' h rfl).2
    simpa using this.symm
  · rw [hkk, List.take_succ_eq_append_getElem hl] at h
    exact (List.append_inj' h rfl).1

/-- How a round may be left. -/
def postL (k : Nat) (St : Nat → (Nat → Prop) → World → Prop) (Stop : Nat → Code → (Nat → Prop) → World → Prop) (S : Nat → Prop) (W : World) : Exit → Act → World → Prop
  | .normal, _, W' => Only S W W' ∧ ∃ S', (∀ j, S' j → S j ∨ W.heap.size ≤ j) ∧ St (k + 1) S' W'
  | .ret, _, W' => Only S W W' ∧ ∃ S', (∀ j, S' j → S j ∨ W.heap.size ≤ j) ∧ Stop k .ret S' W'
  | .exit id, _, W' => Only S W W' ∧ ∃ S', (∀ j, S' j → S j ∨ W.heap.size ≤ j) ∧ Stop k (.exit id) S' W'
  | .goto t, _, W' => Only S W W' ∧ ∃ S', (∀ j, S' j → S j ∨ W.heap.size ≤ j) ∧ Stop k (.goto t) S' W'
  | .panic _, _, _ => False
  | .outgrown, _, _ => False

theorem wp_rangeL {P : Program} {α : Type} {g : Operand} {ps : Array Tmp} {assign body : Code} {Q : Exit → Act → World → Prop} {a : Act} {w w0 : World}
    {gf : Nat} {lb : Array Value} (hg : a.eval g = .func (.func gf) #[] lb) (eg : ∀ args w, (callFunc gf args).run P w = .ok (.enter gf args) w)
    {encs : α → Array Value} {Rd : Nat → Prop} (l : List α) (hRd : ∀ k, Rd k → k < w.heap.size) (hw0 : Below w0.heap.size w0 w)
    (hseq : ∀ W, Below w.heap.size w W → SeqP P gf lb encs Rd (fun xs => xs = l) (fun pre => ∃ k, k ≤ l.length ∧ pre = l.take k) l.length false W) (hps : ∀ x, (encs x).size = ps.size)
    (St : Nat → (Nat → Prop) → World → Prop) (Stop : Nat → Code → (Nat → Prop) → World → Prop) (fac : ∀ k S, Fac S (St k S)) (facS : ∀ k c S, Fac S (Stop k c S))
    (S0 : Nat → Prop) (hS0 : ∀ j, S0 j → w0.heap.size ≤ j ∧ ¬ Rd j) (h0 : St 0 S0 w)
    (hround : ∀ (l0 k : Nat) (hk : k < l.length) (W : World),
      assign.wpIn (Fence.wide.inRound l0) 0 P (Exit.then (fun a₁ W₁ => W₁ = W ∧ ∀ S W₂, Below w0.heap.size w0 W₂ → w.heap.size ≤ W₂.heap.size → (∀ j, Rd j → W₂.heap[j]? = w.heap[j]?) → (∀ j, S j → w0.heap.size ≤ j ∧ ¬ Rd j) → St k S W₂ →
        body.wpIn (Fence.wide.inRound l0) 0 P (postL k St Stop S W₂) a₁ W₂) (fun _ _ _ => False))
        { tmps := (ps.zip (encs l[k])).foldl (fun t (p, v) => t.setIfInBounds p v) a.tmps, defers := [] } W)
    (hdone : ∀ (D : Nat) (S : Nat → Prop) (W : World), w.heap.size ≤ D → ¬ S D → Below w0.heap.size w0 W → (∀ j, Rd j → W.heap[j]? = w.heap[j]?) → (∀ j, S j → w0.heap.size ≤ j) → St l.length S W → W.heap[D]? = some (.deferred (some [])) → Q .normal { a with defers := { target := .collected D, args := #[] } :: a.defers } W)
    (hstop : ∀ (D k : Nat) (c : Code) (S : Nat → Prop) (W : World), k < l.length → w.heap.size ≤ D → ¬ S D → Below w0.heap.size w0 W → (∀ j, Rd j → W.heap[j]? = w.heap[j]?) → (∀ j, S j → w0.heap.size ≤ j) → Stop k c S W → W.heap[D]? = some (.deferred (some [])) → c.wpIn Fence.wide 0 P Q { a with defers := { target := .collected D, args := #[] } :: a.defers } W) :
    (Code.rangeFunc g ps assign body).wpIn Fence.wide 0 P Q a w := by
  have stab : ∀ (F : Nat → (Nat → Prop) → World → Prop) (_ : ∀ k S, Fac S (F k S)) (m : List α → Nat), Stable w.heap.size (fun O (pre : List α) W => Below w0.heap.size w0 W ∧ w.heap.size ≤ W.heap.size ∧ (∀ j, Rd j → W.heap[j]? = w.heap[j]?) ∧ ∃ S, (∀ j, S j → ¬ O j ∧ w0.heap.size ≤ j ∧ ¬ Rd j) ∧ F (m pre) S W) := by
    rintro F fF m O O' s W W' ⟨h1, h2, h3, S, h4, h5⟩ hO hon hO'
    refine ⟨hon.below h1 h1.size (fun i hi => by have := hO i hi; have := hw0.size; omega), Nat.le_trans h2 hon.size, fun j hj => ?_, S, fun j hj => ⟨fun h => ?_, (h4 j hj).2⟩, (fF _ S).only' h5 hon fun j hj => (h4 j hj).1⟩
    · have := hRd j hj
      rw [hon.same j (by omega) (fun h => by have := hO j h; omega)]
      exact h3 j hj
    · have hl := (fF _ S).lt _ h5 j hj
      rcases hO' j h with h | h
      · exact (h4 j hj).1 h
      · omega
  refine wp_rangeP hg eg (encs := encs) (Rd := Rd) (S := fun xs => xs = l) (Sp := fun pre => ∃ k, k ≤ l.length ∧ pre = l.take k) (N := l.length) (inf := false) hRd hseq hps
    (fun O pre W => Below w0.heap.size w0 W ∧ w.heap.size ≤ W.heap.size ∧ (∀ j, Rd j → W.heap[j]? = w.heap[j]?) ∧ ∃ S, (∀ j, S j → ¬ O j ∧ w0.heap.size ≤ j ∧ ¬ Rd j) ∧ St pre.length S W)
    (fun c O pre W => Below w0.heap.size w0 W ∧ w.heap.size ≤ W.heap.size ∧ (∀ j, Rd j → W.heap[j]? = w.heap[j]?) ∧ ∃ S, (∀ j, S j → ¬ O j ∧ w0.heap.size ≤ j ∧ ¬ Rd j) ∧ (Stop (pre.length - 1) c S W ∧ pre.length - 1 < l.length))
    (stab St fac List.length) (fun c => stab (fun k S W => Stop k c S W ∧ k < l.length) (fun k S => ⟨fun W W' h hz hs => ⟨(facS k c S).on W W' h.1 hz hs, h.2⟩, fun W h => (facS k c S).lt W h.1⟩) (fun pre => pre.length - 1)) ⟨hw0, Nat.le_refl _, fun _ _ => rfl, S0, fun j hj => ⟨fun h => h, hS0 j hj⟩, h0⟩ (fun h => by cases h) ?_ ?_ ?_
  · rintro l0 O pre x W hOl hO hI hlen ⟨k, hk, hsp⟩
    obtain ⟨hl, hx, -⟩ := take_snoc hk hsp
    subst hx
    refine wpIn_mono (hround l0 pre.length hl W) ?_
    rintro e a1 W1 hp
    cases e with
    | normal =>
      obtain ⟨rfl, hb⟩ := hp
      refine ⟨Keep.refl _ _, fun W2 hon => ?_⟩
      obtain ⟨h1, h2, h3, S, h4, h5⟩ := stab St fac List.length O O pre W1 W2 hI (fun k h => (hO k h).1) (hon.mono fun j _ e => by rw [e]; exact hOl) (fun k h => .inl h)
      have hO2 : ∀ k, O k → k < W2.heap.size := fun k h => Nat.lt_of_lt_of_le (hO k h).2 hon.size
      refine wpIn_mono (hb S W2 h1 h2 h3 (fun j hj => (h4 j hj).2) h5) ?_
      have key : ∀ (F : Nat → (Nat → Prop) → World → Prop) (W3 : World), Only S W2 W3 → (∃ S', (∀ j, S' j → S j ∨ W2.heap.size ≤ j) ∧ F 0 S' W3) →
          Keep (fun k => O k ∨ Rd k) W2 W3 ∧ Below w0.heap.size w0 W3 ∧ w.heap.size ≤ W3.heap.size ∧ (∀ j, Rd j → W3.heap[j]? = w.heap[j]?) ∧ ∃ S, (∀ j, S j → ¬ O j ∧ w0.heap.size ≤ j ∧ ¬ Rd j) ∧ F 0 S W3 := by
        rintro F W3 ho ⟨S', e1, e2⟩
        refine ⟨⟨ho.size, fun j hj h => ho.same j hj fun hs => ?_⟩, ho.below h1 h1.size (fun j hj => (h4 j hj).2.1), Nat.le_trans h2 ho.size, fun j hj => ?_, S', fun j hj => ?_, e2⟩
        · rcases h with h | h
          · exact (h4 j hs).1 h
          · exact (h4 j hs).2.2 h
        · have := hRd j hj
          rw [ho.same j (by omega) fun hs => (h4 j hs).2.2 hj]
          exact h3 j hj
        · rcases e1 j hj with h | h
          · exact h4 j h
          · have := hw0.size
            exact ⟨fun ho => by have := hO2 j ho; omega, by omega, fun hr => by have := hRd j hr; omega⟩
      rintro e a3 W3 hp
      cases e with
      | normal =>
        obtain ⟨ho, hs⟩ := hp
        obtain ⟨r1, r2, r3, r4, r5⟩ := key (fun _ S W => St (pre.length + 1) S W) W3 ho hs
        exact ⟨r1, r2, r3, r4, by rw [List.length_append]; exact r5⟩
      | ret =>
        obtain ⟨ho, S', hS', hs⟩ := hp
        obtain ⟨r1, r2, r3, r4, r5⟩ := key (fun _ S W => Stop pre.length .ret S W ∧ pre.length < l.length) W3 ho ⟨S', hS', hs, hl⟩
        exact ⟨r1, r2, r3, r4, by rw [List.length_append]; exact r5⟩
      | exit id =>
        obtain ⟨ho, S', hS', hs⟩ := hp
        obtain ⟨r1, r2, r3, r4, r5⟩ := key (fun _ S W => Stop pre.length (.exit id) S W ∧ pre.length < l.length) W3 ho ⟨S', hS', hs, hl⟩
        exact ⟨r1, r2, r3, r4, by rw [List.length_append]; exact r5⟩
      | goto t =>
        obtain ⟨ho, S', hS', hs⟩ := hp
        obtain ⟨r1, r2, r3, r4, r5⟩ := key (fun _ S W => Stop pre.length (.goto t) S W ∧ pre.length < l.length) W3 ho ⟨S', hS', hs, hl⟩
        exact ⟨r1, r2, r3, r4, by rw [List.length_append]; exact r5⟩
      | panic ch => exact hp.elim
      | outgrown => exact hp.elim
    | _ => exact hp.elim
  · rintro D xs O W hD hOD hO hS ⟨h1, h2, h3, S, h4, h5⟩ hK
    rw [show xs = l from hS] at h5
    exact hdone D S W hD (fun h => (h4 D h).1 hOD) h1 h3 (fun j hj => (h4 j hj).2.1) h5 hK
  · rintro D c pre O W hD hOD hO hSp ⟨h1, h2, h3, S, h4, h5, h6⟩ hK
    exact hstop D _ c S W h6 hD (fun h => (h4 D h).1 hOD) h1 h3 (fun j hj => (h4 j hj).2.1) h5 hK
end Go.Proofs.YtijkdabmegbcjaaDoor
namespace Go.Proofs.YtijkdabmegbcjaaDoor
open Go.RowKit Go.Shelf
attribute [local go_sem] Oper.semAt_some

theorem size_any (c : Nat) (w : World) (hc : c < 256) : Calls Tryd.prog 53 #[.int .u8 c] w fun e w' => e = .returned (.int .i64 (szN c)) ∧ w = w' := by
  by_cases h1 : 96 ≤ c
  · by_cases h2 : c ≤ 127
    · have e : szN c = c - 95 := by unfold szN; rw [if_pos ⟨h1, h2⟩]
      have e2 : ((c - 95 : Nat) : Int) = (c : Int) - 95 := by omega
      rw [e, e2]
      have h3 : (95 : Int) < c := by omega
      have h4 : (c : Int) ≤ 127 := by omega
      clear e e2
      go_enter Tryd.func53, Tryd.ntmps53
      go_wp2
      go_ret
      exact ⟨rfl, rfl⟩
    · have e : szN c = 0 := by unfold szN; rw [if_neg (by omega)]
      rw [e]
      have h3 : (95 : Int) < c := by omega
      have h4 : (127 : Int) < c := by omega
      clear e
      go_enter Tryd.func53, Tryd.ntmps53
      go_wp2
      go_ret
      exact ⟨rfl, rfl⟩
  · have e : szN c = 0 := by unfold szN; rw [if_neg (by omega)]
    rw [e]
    have h3 : (c : Int) ≤ 95 := by omega
    clear e
    go_enter Tryd.func53, Tryd.ntmps53
    go_wp2
    go_ret
    exact ⟨rfl, rfl⟩
theorem ops_any (a : Option Addr) (n c : Nat) (w : World) : Calls Tryd.prog 39 #[.slice a n c] w fun e w' => e = .returned (.func (.func 52) #[] #[.pointer (some ⟨w.heap.size, 0, none⟩)]) ∧ w.alloc (.cells #[.slice a n c] 22) = w' := by
  go_enter Tryd.func39, Tryd.ntmps39
  go_wp2
  go_ret
  exact ⟨rfl, rfl⟩
def encOp (cs : List Nat) (x : Nat) : Array Value := #[.int .i64 x, .int .u8 (byN cs x)]
/-- The blocks in which code lies that a box holds. -/
def codeRd (bx : Nat) (a : Option Addr) (cs : List Nat) (k : Nat) : Prop := k = bx ∨ (cs ≠ [] ∧ ∃ y, a = some y ∧ y.block = k)
theorem code_keep {O : Nat → Prop} {W W' : World} {a : Option Addr} {c : Nat} {cs : List Nat} (h : CodeAt W a c cs) (hk : Keep O W W') (hO : ∀ k, (cs ≠ [] ∧ ∃ y, a = some y ∧ y.block = k) → O k) : CodeAt W' a c cs :=
  ⟨fun i hi => by
    obtain ⟨b, o, e, hc⟩ := h.row i hi
    exact ⟨b, o, e, (World.cell?_of_block (hk.same b (cell_lt hc) (hO b ⟨fun e => by rw [e] at hi; simp [natI] at hi, _, e, rfl⟩))).trans hc⟩, h.nil, h.len, h.ok, h.cap⟩
theorem drop_cons {α : Type} {l : List α} {k : Nat} {x : α} {r : List α} (h : l.drop k = x :: r) : ∃ hk : k < l.length, l[k] = x ∧ l.drop (k + 1) = r ∧ l.take (k + 1) = l.take k ++ [x] := by
  have hk : k < l.length := by
    rcases Nat.lt_or_ge k l.length with h1 | h1
    · exact h1
    · rw [List.drop_eq_nil_of_le h1] at h; cases h
  rw [List.drop_eq_getElem_cons hk] at h
  injection h with h1 h2
  exact ⟨hk, h1, h2, by rw [List.take_succ_eq_append_getElem hk, h1]⟩
set_option maxRecDepth 100000 in
set_option maxHeartbeats 1000000 in
theorem ops_seq (cs : List Nat) (bx : Nat) (a : Option Addr) (c : Nat) (W : World) (hx : Box W bx (.slice a cs.length c) 22) (hm : CodeAt W a c cs) :
    SeqP Tryd.prog 52 #[.pointer (some ⟨bx, 0, none⟩)] (encOp cs) (codeRd bx a cs) (fun xs => xs = opsL cs) (fun pre => ∃ k, k ≤ (opsL cs).length ∧ pre = (opsL cs).take k) (opsL cs).length false W := by
  intro l0 J Jx hJ hJx hY h0 _
  replace hJ := Lib.hid hJ
  replace hJx := Lib.hid hJx
  replace hY := Lib.hid hY
  have hlen := hm.len
  replace hm := Lib.hid hm
  replace hx := Lib.hid hx
  replace h0 := Lib.hid h0
  refine callsIn_of_wp Tryd.func52 rfl trivial ?_ rfl
  simp only [Tryd.ntmps52, List.size_toArray, List.length_cons, List.length_nil, Nat.reduceAdd, Nat.reduceSub, Array.replicate_succ, Array.replicate_zero, List.push_toArray, List.append_toArray, List.nil_append, List.cons_append]
  gi_wp2
  refine wpIn_scope_wide ?_
  gi_wp2
  refine wpIn_label ?_
  gi_wp2
  gi_loopw [3] (fun iv wr => ∃ (k x : Nat), iv = .int .i64 x ∧ x ≤ 500 ∧ Hid (opsA cs x = (opsL cs).drop k) ∧ Hid (k ≤ (opsL cs).length) ∧ Hid (Box wr bx (.slice a cs.length c) 22) ∧ Hid (CodeAt wr a c cs) ∧ Hid (J (fun _ => False) ((opsL cs).take k) wr)) (fun iv _ => 600 - (intOf iv).toNat)
  case atStart => exact ⟨0, 0, rfl, by omega, Lib.hid rfl, Lib.hid (Nat.zero_le _), hx, hm, h0⟩
  case round =>
    clear hx hm h0
    obtain ⟨k, x, rfl, hx5, ho, hk, hx, hm, hJs⟩ := hrel
    have hxc := hx.out.cell
    by_cases hlt : x < cs.length
    · have hltI : (x : Int) < cs.length := by omega
      obtain ⟨b, o, rfl, hc, h256⟩ := hm.out.get hlt
      have ho2 := ho.out
      rw [opsA_lt hlt] at ho2
      obtain ⟨hkl, hke, hdr, htk⟩ := drop_cons ho2.symm
      have hs32 := szN_le (byN cs x)
      have h00 : cs ≠ [] := fun e => by rw [e] at hlt; simp at hlt
      have hnx : nxN cs x = x + 1 + szN (byN cs x) := rfl
      obtain ⟨fnc, tmps, assign, body, hy, hR⟩ := hY.out (fun _ => False) ((opsL cs).take k) x wr (fun k h => h.elim) hJs.out (by rw [List.length_take]; omega) ⟨k + 1, by omega, htk.symm⟩
      rw [← htk] at hR
      replace hR := Lib.hid hR
      replace hdr := Lib.hid hdr
      clear ho2 hke htk
      replace hkl := Lib.hid hkl
      generalize hS : szN (byN cs x) = s at *
      have hsz := Lib.hid fun W => size_any (byN cs x) W h256
      rw [hS] at hsz
      have hxn : nxN cs x ≤ 500 := by omega
      clear hS
      replace hnx := Lib.hid hnx
      unfold encOp at hy
      generalize byN cs x = y at *
      gi_wp2
      refine ⟨rfl, hR.out.mono ?_⟩
      rintro e W3 (⟨rfl, hJ3, hk3⟩ | ⟨rfl, hJx3, hk3⟩)
      · have hx3 := Lib.hid (show Box W3 bx _ _ from (hk3.same bx hx.out.lt (.inr (.inl rfl))).trans hx.out)
        have hm3 := Lib.hid (code_keep hm.out hk3 (fun k h => .inr (.inr h)))
        have hxc3 := hx3.out.cell
        have hc3 : W3.cell? ⟨b, o + x, none⟩ = some (.int .u8 y) := (World.cell?_of_block (hk3.same b (cell_lt hc) (.inr (.inr ⟨h00, _, rfl, rfl⟩)))).trans hc
        replace hJ3 := Lib.hid hJ3
        clear hk3 hJs hx hm hxc hc hR
        gi_wp2
        refine ⟨trivial, rfl, (callsIn_wide.2 (hsz.out _)).mono ?_⟩
        rintro e w' ⟨rfl, rfl⟩
        gi_wp2
        have hv : Value.int .i64 ((x : Int) + (1 + (s : Int))) = .int .i64 ((nxN cs x : Nat) : Int) := by rw [hnx.out]; congr 1; omega
        refine ⟨⟨k + 1, nxN cs x, hv, hxn, Lib.hid hdr.out.symm, Lib.hid hkl.out, hx3, hm3, hJ3⟩, ?_⟩
        simp [intOf]; omega
      · gi_wp2
        rw [Exit.noGoto_normal]
        go_end0
        exact ⟨⟨_, rfl⟩, .inr ⟨_, _, ⟨k + 1, hkl.out, rfl⟩, fun k h => h.elim, hJx3⟩⟩
    · have ho2 := ho.out
      rw [opsA_ge (by omega)] at ho2
      have hkl : k = (opsL cs).length := by
        have := congrArg List.length ho2
        rw [List.length_nil, List.length_drop] at this
        have := hk.out
        omega
      replace ho2 := Lib.hid ho2
      rw [hkl, List.take_length] at hJs
      replace hkl := Lib.hid hkl
      gi_wp2
      rw [Exit.noGoto_normal]
      go_end0
      exact ⟨⟨_, rfl⟩, .inl ⟨_, _, rfl, fun k h => h.elim, hJs.out⟩⟩
end Go.Proofs.YtijkdabmegbcjaaDoor
namespace Go.Proofs.YtijkdabmegbcjaaDoor
open Go.RowKit Go.Shelf

theorem own_same {w w' : World} {base : Nat} {e : TypeId} {size : Nat} {v : Value} {n : Nat} {xs : List Value} (h : w.ownsRow base e size v n xs) (hk : ∀ g, v.ownBlock = some g → g < w.heap.size → w'.heap[g]? = w.heap[g]?) : w'.ownsRow base e size v n xs := by
  refine ⟨h.1, ?_⟩
  rcases h.2 with hn | ⟨g, cap, cur, rfl, hb, hg, r⟩
  · exact .inl hn
  · exact .inr ⟨g, cap, cur, rfl, hb, (hk g rfl (Array.getElem?_eq_some_iff.1 hg).1).trans hg, r⟩
theorem own_lt {w : World} {base : Nat} {e : TypeId} {size : Nat} {v : Value} {n : Nat} {xs : List Value} (h : w.ownsRow base e size v n xs) {g : Nat} (hv : v.ownBlock = some g) : base ≤ g ∧ g < w.heap.size := by
  rcases h.2 with ⟨rfl, -⟩ | ⟨g', cap, cur, rfl, hb, hg, r⟩
  · cases hv
  · obtain rfl : g' = g := Option.some.inj hv
    exact ⟨hb, (Array.getElem?_eq_some_iff.1 hg).1⟩
theorem own_ne {w : World} {base bx : Nat} {v u : Value} {e T : TypeId} {size n : Nat} {xs : List Value} (h : w.ownsRow base e size v n xs) (hb : Box w bx u T) (hT : e ≠ T) : v.ownBlock ≠ some bx := by
  rcases h.2 with ⟨rfl, -⟩ | ⟨g, cap, cur, rfl, _, hg, _⟩
  · intro e; cases e
  · intro e2
    have : g = bx := Option.some.inj e2
    subst this
    unfold Box at hb
    rw [hg] at hb
    injection hb with hb
    injection hb with h1 h2
    exact hT h2
theorem only_grown {w w' : World} {row : Option Nat} (h : w.grownBy w' row) : Only (fun k => row = some k) w w' :=
  ⟨h.os, h.tape, h.output, h.size, fun k hk hn => h.block k hk fun e => hn e.symm⟩
/-- The box in block r holds a slice of the call's own: n elements, their cells xs. S: the box's block and the slice's. -/
def BoxR (B : Nat) (ET : TypeId) (sz : Nat) (ST : TypeId) (r n : Nat) (xs : List Value) (S : Nat → Prop) (W : World) : Prop :=
  ∃ v, Box W r v ST ∧ W.ownsRow B ET sz v n xs ∧ S r ∧ (∀ g, v.ownBlock = some g → S g) ∧ ∀ j, S j → j < W.heap.size
section
variable {B : Nat} {ET : TypeId} {sz : Nat} {ST : TypeId} {r n : Nat} {xs : List Value} {S : Nat → Prop} {W W' : World}
theorem boxR_fac : Fac S (BoxR B ET sz ST r n xs S) :=
  ⟨fun W W' ⟨v, h1, h2, h3, h4, h5⟩ hz hs => ⟨v, (hs r h3 h1.lt).trans h1, own_same h2 fun g hg hl => hs g (h4 g hg) hl, h3, h4, fun j hj => Nat.lt_of_lt_of_le (h5 j hj) hz⟩, fun W ⟨_, _, _, _, _, h⟩ k hk => h k hk⟩
theorem boxR_new (w : World) (T : TypeId) (hB : B ≤ w.heap.size) : BoxR B ET sz T w.heap.size 0 [] (· = w.heap.size) (w.alloc (.cells #[.slice none 0 0] T)) :=
  ⟨_, Box.new _ _ _, ⟨by simp, .inl ⟨rfl, rfl⟩⟩, rfl, (by rintro g h; cases h), fun j hj => by rw [World.size_alloc]; omega⟩
/-- One append, stored back. -/
theorem boxR_next {v V5 : Value} {W2 W3 W5 : World} {m : Nat} {ys : List Value} (hT : ET ≠ ST) (h1 : Box W2 r v ST) (h2 : W2.ownsRow B ET sz v n xs) (h3 : S r) (h4 : ∀ g, v.ownBlock = some g → S g) (hb : Below W2.heap.size W2 W3) (hg5 : W3.grownBy W5 v.ownBlock)
    (o5 : W5.ownsRow B ET sz V5 m ys) (hvb : V5.ownBlock = v.ownBlock ∨ ∀ k, V5.ownBlock = some k → W3.heap.size ≤ k) :
    Only S W2 (W5.setCell ⟨r, 0, none⟩ V5) ∧ ∃ S', (∀ j, S' j → S j ∨ W2.heap.size ≤ j) ∧ BoxR B ET sz ST r m ys S' (W5.setCell ⟨r, 0, none⟩ V5) := by
  have hon : Only (· = r) W5 (W5.setCell ⟨r, 0, none⟩ V5) := (Only.refl _ _).setCell _ _ rfl
  have ho : Only S W2 (W5.setCell ⟨r, 0, none⟩ V5) :=
    ((Below.only hb : Only S W2 W3).trans ((only_grown hg5).mono fun k _ h => h4 k h)).trans (hon.mono fun k _ h => by rw [h]; exact h3)
  have hne : v.ownBlock ≠ some r := own_ne h2 h1 hT
  have c5 : Box W5 r v ST := (h1.below hb).only (only_grown hg5) hne
  have hne5 := own_ne o5 c5 hT
  refine ⟨ho, fun j => j = r ∨ V5.ownBlock = some j, fun j hj => ?_, V5, c5.set V5, own_same o5 fun g hg hl => hon.same g hl fun e => hne5 (by rw [hg, e]), .inl rfl, fun g hg => .inr hg, fun j hj => ?_⟩
  · rcases hj with rfl | hj
    · exact .inl h3
    · rcases hvb with e | e
      · exact .inl (h4 j (by rw [← e]; exact hj))
      · exact .inr (Nat.le_trans hb.size (e j hj))
  · rcases hj with rfl | hj
    · exact Nat.lt_of_lt_of_le c5.lt hon.size
    · exact Nat.lt_of_lt_of_le (own_lt o5 hj).2 hon.size
end
/-- A named result that is one cell, read at the return. -/
theorem results_slice {P : Program} {fn : Func} {p : Tmp} {T e : TypeId} (h : fn.results = #[.cell p T]) (hu : P.underlying T = some (.slice e)) (tmps : Array Value) (w : World) (g : Nat) (v : Value) (T' : TypeId) (hp : tmps.getD p undef = .pointer (some ⟨g, 0, none⟩)) (hc : Box w g v T') :
    (results fn tmps).run P w = .ok v w := by
  have hp' : tmps[p]?.getD undef = .pointer (some ⟨g, 0, none⟩) := by simpa using hp
  have hu' := run_underlying hu w
  have hc' := hc.cell
  simp [results, h, hp', asAddr]
  unfold loadVar isAgg
  simp [Sem.run_bind, hu', hc', Result.andThen_ok, Sem.run]
end Go.Proofs.YtijkdabmegbcjaaDoor
namespace Go.Proofs.YtijkdabmegbcjaaDoor
open Go.RowKit Go.Shelf
attribute [local go_sem] Oper.semAt_some

def mkTo (cs : List Nat) (k : Nat) : List Nat := ((opsL cs).take k).filter fun i => byN cs i == 91
/-- After k rounds. -/
def MkS (w : World) (cs : List Nat) (k : Nat) (S : Nat → Prop) (W : World) : Prop :=
  BoxR w.heap.size 3 1 27 w.heap.size (mkTo cs k).length ((natI (mkTo cs k)).map (Value.int .i64)) S W
theorem mkTo_len (cs : List Nat) (k : Nat) : (mkTo cs k).length ≤ cs.length := by
  have h1 := List.length_filter_le (fun i => byN cs i == 91) ((opsL cs).take k)
  have h2 := opsL_len cs
  unfold mkTo
  rw [List.length_take] at h1
  omega
theorem codeRd_old {w w' : World} {bx : Nat} {a : Option Addr} {c : Nat} {cs : List Nat} (h : CodeAt w a c cs) {k : Nat} (hk : ∃ y, a = some y ∧ y.block = k) (h0 : cs ≠ []) : k < w.heap.size := by
  obtain ⟨y, e, rfl⟩ := hk
  obtain ⟨b, o, e2, hc⟩ := h.row 0 (by rw [natI_len]; exact List.length_pos_iff.2 h0)
  rw [e2] at e; cases e
  exact cell_lt hc
set_option maxRecDepth 100000 in
set_option maxHeartbeats 2000000 in
theorem marks_any (cs : List Nat) (a : Option Addr) (c : Nat) (w : World) (h : CodeAt w a c cs) :
    Calls Tryd.prog 42 #[.slice a cs.length c] w fun e w' => (∃ v, e = .returned v ∧ OwnI w w' v (marksL cs)) ∧ Below w.heap.size w w' := by
  obtain ⟨i0, hi0, hz0, hz1, hz2⟩ := info_parts info_int
  have hlen := h.len
  have hol := opsL_len cs
  have hall : Hid (mkTo cs (opsL cs).length = marksL cs) := Lib.hid (by unfold mkTo marksL; rw [List.take_length])
  have hstep := Lib.hid fun k (hk : k < (opsL cs).length) => marks_step (cs := cs) hk
  have hlt := Lib.hid fun x (hx : x ∈ opsL cs) => opsL_lt hx
  have hml := Lib.hid (mkTo_len cs)
  have hB0 := boxR_new (B := w.heap.size) (ET := 3) (sz := 1) w 27 (Nat.le_refl _)
  have hops := Lib.hid fun W => ops_any a cs.length c W
  refine (callsIn_wide (n := 0)).1 ?_
  refine callsIn_of_wp_marks Tryd.func42 rfl trivial ?_ rfl
  simp only [Tryd.ntmps42, List.size_toArray, List.length_cons, List.length_nil, Nat.reduceAdd, Nat.reduceSub, Array.replicate_succ, Array.replicate_zero, List.push_toArray, List.append_toArray, List.nil_append, List.cons_append]
  refine wpIn_wide.2 ?_
  go_wp2_with (go_at_call 39; refine (hops.out _).mono ?_; rintro e w' ⟨rfl, rfl⟩)
  refine (wpIn_wide (n := 0)).1 ?_
  have hx1 : Box ((w.alloc (Obj.cells #[.slice none 0 0] 27)).alloc (Obj.cells #[.slice a cs.length c] 22)) (w.heap.size + 1) (.slice a cs.length c) 22 := by
    have := Box.new (w.alloc (Obj.cells #[.slice none 0 0] 27)) (.slice a cs.length c) 22
    rwa [World.size_alloc] at this
  have hb1 : Below w.heap.size w ((w.alloc (Obj.cells #[.slice none 0 0] 27)).alloc (Obj.cells #[.slice a cs.length c] 22)) := xalloc (xalloc (xrefl w) _) _
  have hS1 : MkS w cs 0 (· = w.heap.size) ((w.alloc (Obj.cells #[.slice none 0 0] 27)).alloc (Obj.cells #[.slice a cs.length c] 22)) := boxR_fac.below hB0 (xalloc (xrefl _) _)
  have hs1 : ((w.alloc (Obj.cells #[.slice none 0 0] 27)).alloc (Obj.cells #[.slice a cs.length c] 22)).heap.size = w.heap.size + 2 := by simp
  generalize (w.alloc (Obj.cells #[.slice none 0 0] 27)).alloc (Obj.cells #[.slice a cs.length c] 22) = w1 at *
  have hold := fun k (h0 : cs ≠ [] ∧ ∃ y, a = some y ∧ y.block = k) => codeRd_old (w' := w) (bx := 0) h h0.2 h0.1
  refine wp_rangeL (w0 := w) (gf := 52) (lb := #[.pointer (some ⟨w.heap.size + 1, 0, none⟩)]) rfl (enters_of Tryd.func52 (by kernel_rfl) rfl) (encs := encOp cs) (Rd := codeRd (w.heap.size + 1) a cs) (opsL cs)
    (fun k hk => by
      rcases hk with rfl | hk
      · omega
      · have := hold k hk; omega) hb1 (fun W hW => ops_seq cs _ a c W (hx1.below hW) ((h.below hb1).below hW)) (fun x => rfl) (MkS w cs) (fun _ _ _ _ => False) (fun k S => boxR_fac) (fun _ _ _ => ⟨fun _ _ h _ _ => h, fun _ h => h.elim⟩) (· = w.heap.size)
    (fun j hj => ⟨by omega, fun hr => by
      rcases hr with rfl | hr
      · omega
      · have := hold j hr; omega⟩) hS1 ?round ?done ?stop
  case round =>
    intro l0 k hk W
    unfold encOp
    dsimp only
    have hst := hstep.out k hk
    have hkl := hlt.out _ (List.getElem_mem hk)
    have hm1 := hml.out k
    generalize (opsL cs)[k] = x at *
    gi_wp2
    refine ⟨trivial, fun S W2 hb2 hzz _ hSo hS => ?_⟩
    have hsz2 := hb2.size
    unfold MkS at hS
    obtain ⟨v, h1, h2, h3, h4, h5⟩ := hS
    by_cases hm : byN cs x = 91
    · rw [hm]
      rw [if_pos hm] at hst
      replace hst := Lib.hid hst
      replace hm := Lib.hid hm
      have hcb := h1.cell
      have hfb := h1.free
      have hb3 : Below W2.heap.size W2 (W2.alloc (.cells #[.int .i64 x] 3)) := xalloc (xrefl _) _
      have hmid := Lib.hid fun V5 W5 (hg5 : (W2.alloc (.cells #[.int .i64 x] 3)).grownBy W5 v.ownBlock) (o5 : W5.ownsRow w.heap.size 3 1 V5 ((mkTo cs k).length + 1) ((natI (mkTo cs k)).map (Value.int .i64) ++ [.int .i64 x])) hvb => boxR_next (S := S) (by decide) h1 h2 h3 h4 hb3 hg5 o5 hvb
      have h2a := Lib.hid (h2.alloc (.cells #[.int .i64 x] 3))
      have hne := Lib.hid (own_ne h2 h1 (by decide))
      have h1a := Lib.hid (h1.below hb3)
      replace h5 := Lib.hid h5
      replace hSo := Lib.hid hSo
      have hq1 := Lib.hid (Box.new W2 (.int .i64 x) 3).cell
      clear h1 h2 h3 h4 hb3 hb2
      obtain ⟨a4, c4, rfl⟩ := own_slice h2a.out
      gi_wp2_with (gi_at_builtin; refine wpListIn_append_blkV (W2.alloc (.cells #[.int .i64 x] 3)) rfl _ _ 27 rfl w.heap.size 3 i0 (.int .i64 0) 1 8 Tryd.underlying27 hi0 hz0 hz1 hz2 rfl (by decide) (.slice a4 (mkTo cs k).length c4) (mkTo cs k).length _ rfl h2a.out ⟨W2.heap.size, 0, none⟩ 1 1 [.int .i64 x] rfl rfl (by intro j u hj; match j, hj with | 0, hj => (injection hj with hj; subst hj; exact hq1.out)) (by simp [Value.oneCell']) (by unfold maxLen; omega) (by omega) (by rw [World.size_alloc]; omega) ?_; intro V5 W5 o5 hg5 hvb; have hfin := Lib.hid (hmid.out V5 W5 hg5 o5 hvb); have c5 := (h1a.out.only (only_grown hg5) hne.out); have cc5 := c5.cell; have cf5 := c5.free; obtain ⟨a5, e5, rfl⟩ := own_slice o5; clear hg5 o5 hvb c5 hmid)
      obtain ⟨ho, S', hS', hB⟩ := hfin.out
      refine ⟨ho, S', hS', ?_⟩
      show BoxR _ _ _ _ _ _ _ _ _
      unfold mkTo at hB ⊢
      rw [hst.out, List.length_append, natI_app, List.map_append]
      exact hB
    · rw [if_neg hm, List.append_nil] at hst
      have hm1 : ((byN cs x : Int) == 91) = false := by simp; omega
      have hm2 : ¬ (byN cs x : Int) = 91 := by omega
      replace hst := Lib.hid hst
      generalize (byN cs x : Int) = y at *
      clear hm
      have hfin : Hid (∃ S', (∀ j, S' j → S j ∨ W2.heap.size ≤ j) ∧ MkS w cs (k + 1) S' W2) := Lib.hid ⟨S, fun j hj => .inl hj, by
        show BoxR _ _ _ _ _ _ _ _ _
        unfold mkTo at h2 ⊢
        rw [hst.out]
        exact ⟨v, h1, h2, h3, h4, h5⟩⟩
      clear h1 h2 h3 h4 h5 hSo hb2
      gi_wp2
      exact ⟨Only.refl _ _, hfin.out⟩
  case done =>
    intro D S W hD hSD hb _ _ hS hK
    unfold MkS at hS
    rw [hall.out] at hS
    obtain ⟨v, h1, h2, h3, h4, h5⟩ := hS
    have hcb := h1.cell
    have hfb := h1.free
    have hne := Lib.hid (own_ne h2 h1 (by decide))
    replace h1 := Lib.hid h1
    replace h2 := Lib.hid h2
    obtain ⟨a4, c4, rfl⟩ := own_slice h2.out
    go_wp2
    have hset := (Only.refl (· = w.heap.size) W).setCell ⟨w.heap.size, 0, none⟩ (.slice a4 (marksL cs).length c4) rfl
    have hbx := (h1.out.set (.slice a4 (marksL cs).length c4))
    have h2' : (W.setCell ⟨w.heap.size, 0, none⟩ (.slice a4 (marksL cs).length c4)).ownsRow w.heap.size 3 1 (.slice a4 (marksL cs).length c4) (marksL cs).length ((natI (marksL cs)).map (Value.int .i64)) := own_same h2.out fun g hg hl => hset.same g hl fun e => hne.out (by rw [hg, e])
    have hb' := hset.below hb hb.size (by rintro i rfl; exact Nat.le_refl _)
    have hK' := (hset.same D (Array.getElem?_eq_some_iff.1 hK).1 (by omega)).trans hK
    generalize W.setCell ⟨w.heap.size, 0, none⟩ (.slice a4 (marksL cs).length c4) = W7 at *
    have hput := (Only.refl (· = D) W7).putObj D (.deferred none) rfl
    refine ⟨by simp [Act.put], .inl ⟨_, _, rfl, run_takeDeferred hK', ?_⟩⟩
    have hDg : ∀ g, (Value.slice a4 (marksL cs).length c4).ownBlock = some g → g ≠ D := fun g hg e => by
      have h9 := h4 g hg
      exact hSD (by rw [← e]; exact h9)
    exact ⟨_, results_slice rfl Tryd.underlying27 _ _ w.heap.size _ 27 rfl (hbx.only hput (by omega)), ⟨_, rfl, own_same h2' fun g hg hl => hput.same g hl (hDg g hg)⟩, hput.below hb' hb'.size (by rintro i rfl; omega)⟩
  case stop => 
    intro D k c S W _ _ _ _ _ _ h
    exact h.elim
end Go.Proofs.YtijkdabmegbcjaaDoor
namespace Go.Proofs.YtijkdabmegbcjaaDoor
open Go.RowKit Go.Shelf

theorem small_limbs {N : Nat} (h : N < 2 ^ 256) : (N < 18446744073709551616 → limb N 0 = N ∧ limb N 1 = 0 ∧ limb N 2 = 0 ∧ limb N 3 = 0) ∧ (limb N 1 = 0 → limb N 2 = 0 → limb N 3 = 0 → N < 18446744073709551616) := by
  have hv := val_limbs N h
  have l0 := limb_lt N 0
  constructor
  · intro h1
    have a1 : limb N 1 = 0 := by
      rcases Nat.eq_zero_or_pos (limb N 1) with h | h
      · exact h
      · have : 2 ^ 64 ≤ limb N 1 * 2 ^ 64 := Nat.le_mul_of_pos_left _ h
        omega
    have a2 : limb N 2 = 0 := by
      rcases Nat.eq_zero_or_pos (limb N 2) with h | h
      · exact h
      · have : 2 ^ 128 ≤ limb N 2 * 2 ^ 128 := Nat.le_mul_of_pos_left _ h
        omega
    have a3 : limb N 3 = 0 := by
      rcases Nat.eq_zero_or_pos (limb N 3) with h | h
      · exact h
      · have : 2 ^ 192 ≤ limb N 3 * 2 ^ 192 := Nat.le_mul_of_pos_left _ h
        omega
    rw [a1, a2, a3] at hv
    exact ⟨by omega, a1, a2, a3⟩
  · intro a1 a2 a3
    rw [a1, a2, a3] at hv
    omega
set_option maxRecDepth 100000 in
set_option maxHeartbeats 2000000 in
theorem small_any (N : Nat) (w : World) (h : N < 2 ^ 256) : Calls Tryd.prog 43 #[wordV N] w fun e w' => e = .returned (.tuple #[.int .u64 (smallN N).1, .bool (smallN N).2]) ∧ Below w.heap.size w w' := by
  obtain ⟨h1, h2⟩ := small_limbs h
  have hd : Hid (([(limb N 0 : Int), limb N 1, limb N 2, limb N 3] = [(limb N 0 : Int), 0, 0, 0]) ↔ N < 18446744073709551616) := Lib.hid (by
    constructor
    · intro e
      injection e with _ e
      injection e with e1 e
      injection e with e2 e
      injection e with e3 _
      exact h2 (by omega) (by omega) (by omega)
    · intro hN
      obtain ⟨_, a1, a2, a3⟩ := h1 hN
      rw [a1, a2, a3]; rfl)
  have hl0 := limb_lt N 0
  unfold wordV smallN
  have hm : Tryd.prog.eqGuardType Tryd.prog.depth 37 = false := by kernel_rfl
  have hi : (Tryd.prog.info? 35).isSome = true := by kernel_rfl
  have hc : Tryd.prog.cellsOf 35 = 1 := by kernel_rfl
  replace hm := Lib.hid hm
  replace hi := Lib.hid hi
  replace hc := Lib.hid hc
  by_cases hN : N < 18446744073709551616
  · obtain ⟨a0, a1, a2, a3⟩ := h1 hN
    rw [if_pos hN]
    have hdd : Hid (decide ([(limb N 0 : Int), limb N 1, limb N 2, limb N 3] = [(limb N 0 : Int), 0, 0, 0]) = true) := Lib.hid (decide_eq_true (hd.out.2 hN))
    clear hd h1 h2 h a1 a2 a3 hN
    replace a0 := Lib.hid a0
    go_enter Tryd.func43, Tryd.ntmps43
    go_wp2_with (refine wpList_exec rfl (.bool false) (by rw [run_neq_at 37 _ _ _ rfl 35 4 .u64 .u64 [(limb N 0 : Int), limb N 1, limb N 2, limb N 3] [(limb N 0 : Int), 0, 0, 0] rfl rfl Tryd.underlying37 Tryd.underlying35 hi.out hc.out hm.out rfl rfl, hdd.out]; rfl) ?_)
    go_ret2
    exact ⟨by show Ending.returned (.tuple #[.int .u64 (limb N 0 : Nat), .bool true]) = _; rw [a0.out], xalloc (xrefl _) _⟩
  · rw [if_neg hN]
    have hdd : Hid (decide ([(limb N 0 : Int), limb N 1, limb N 2, limb N 3] = [(limb N 0 : Int), 0, 0, 0]) = false) := Lib.hid (decide_eq_false fun e => hN (hd.out.1 e))
    clear hd h1 h2 h hN
    go_enter Tryd.func43, Tryd.ntmps43
    go_wp2_with (refine wpList_exec rfl (.bool true) (by rw [run_neq_at 37 _ _ _ rfl 35 4 .u64 .u64 [(limb N 0 : Int), limb N 1, limb N 2, limb N 3] [(limb N 0 : Int), 0, 0, 0] rfl rfl Tryd.underlying37 Tryd.underlying35 hi.out hc.out hm.out rfl rfl, hdd.out]; rfl) ?_)
    go_ret2
    exact ⟨rfl, xalloc (xrefl _) _⟩
end Go.Proofs.YtijkdabmegbcjaaDoor
