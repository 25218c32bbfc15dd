/- Texts of this claim, merged; no condition. -/
import Derived.RangeFuncLeaves
import Derived.Test.YtijkdabmegbcjaaGreatDoorT00
import Derived.Test.YtijkdabmegbcjaaGreatDoorTA
set_option linter.all false
namespace Go.Proofs.YtijkdabmegbcjaaGreatDoor
open Go.RowKit
def roundPostX (P : Program) (l : Nat) (f : FuncId) (R : Ending → World → Prop) : Exit → Act → World → Prop
  | .panic chain, a, w => a.defers = [] ∧ (∃ fn, P.funcs[f]? = some fn) ∧ R (.panicked chain) w
  | e, a, w => roundPost P l R e a w
theorem roundIn_of_wpInX {F : Fence} {n : Nat} {P : Program} {l : Nat} {f : FuncId} {tmps : Array Value} {assign body : Code} {w : World} {R : Ending → World → Prop} (hF : F.fn f)
    (h : assign.wpIn (F.inRound l) n P (Exit.then (fun a₁ w₁ => ∃ w₂, (Instr.beginRound l).run P w₁ = .ok () w₂ ∧ body.wpIn (F.inRound l) n P (roundPostX P l f R) a₁ w₂) (fun _ _ _ => False))
      { tmps := tmps, defers := [] } w) :
    RoundIn F n P l f tmps assign body w R := by
  refine ⟨hF, fun c cs hr => ?_⟩
  let b : Frame := { (default : Frame) with fn := f, kind := .normal, roundOf := some l }
  have hb0 : Frame.round l f tmps assign body .normal = b.atR { tmps := tmps, defers := [] } [.code assign, .beginRound, .code body] := by
    simp [Frame.round, Frame.atR, b]
  have hr' : (F.inRound l).room ((c :: cs).length + 1 + n) := hr
  have hF' : (F.inRound l).fn b.fn := hF
  obtain ⟨e, a₁, w₁, hq, harr⟩ := h b [.beginRound, .code body] (c :: cs) rfl hF' hr'
  rw [← hb0] at harr
  cases e with
  | normal =>
    obtain ⟨w₂, hbr, hbody⟩ := hq
    have s1 : StepsIn (Machine.fenced P (F.inRound l)) P (lone (b.atR a₁ [.beginRound, .code body]) (c :: cs) w₁) (lone (b.atR a₁ [.code body]) (c :: cs) w₂) :=
      .one (fenced_calm (fr := b.atR a₁ [.beginRound, .code body]) hF' hr' rfl) (stepR_beginRound rfl hbr)
    obtain ⟨e₂, a₂, w₃, hq₂, harr₂⟩ := hbody b [] (c :: cs) rfl hF' hr'
    cases e₂ with
    | normal =>
      obtain ⟨v, w₄, hend, hR⟩ := hq₂
      exact ⟨.returned v, w₄, hR, (StepsIn.trans harr s1).trans (StepsIn.trans harr₂ (.one (fenced_calm (fr := b.atR a₂ []) hF' hr' rfl) (stepR_round_end rfl rfl hend)))⟩
    | ret =>
      obtain ⟨v, w₄, hend, hR⟩ := hq₂
      obtain ⟨k₁, hs⟩ := harr₂.2 rfl
      exact ⟨.returned v, w₄, hR, (StepsIn.trans harr s1).trans (StepsIn.trans hs (.one (fenced_calm (fr := b.atR a₂ (.code .ret :: k₁)) hF' hr' rfl) (stepR_round_ret rfl rfl hend)))⟩
    | exit id =>
      obtain ⟨v, w₄, hend, hR⟩ := hq₂
      obtain ⟨k₁, hk, hs⟩ := harr₂.2 rfl rfl
      exact ⟨.returned v, w₄, hR, (StepsIn.trans harr s1).trans (StepsIn.trans hs (.one (fenced_calm (fr := b.atR a₂ (.code (.exit id) :: k₁)) hF' hr' rfl) (stepR_round_exit rfl rfl hk hend)))⟩
    | goto t =>
      obtain ⟨v, w₄, hend, hR⟩ := hq₂
      obtain ⟨k₁, hk, hs⟩ := harr₂.2 rfl rfl
      exact ⟨.returned v, w₄, hR, (StepsIn.trans harr s1).trans (StepsIn.trans hs (.one (fenced_calm (fr := b.atR a₂ (.code (.goto t) :: k₁)) hF' hr' rfl) (stepR_round_goto rfl rfl hk hend)))⟩
    | panic chain =>
      obtain ⟨hd, ⟨fn, hfn⟩, hR⟩ := hq₂
      obtain ⟨todo, hs⟩ := harr₂
      refine ⟨.panicked chain, w₃, hR, (StepsIn.trans harr s1).trans (StepsIn.trans hs (.one (fenced_calm (fr := { b.atR a₂ todo with mode := .panicking chain }) hF' hr' (by simp [Frame.about, Frame.atR, hd])) (step_leave_panicked ⟨rfl, hd, fn, hfn⟩)))⟩
    | outgrown => exact hq₂.elim
  | exit id => exact hq.elim
  | goto t => exact hq.elim
  | ret => exact hq.elim
  | panic chain => exact hq.elim
  | outgrown => exact hq.elim
def Code.wpAt (f0 : FuncId) (F : Fence) (n : Nat) (P : Program) (c : Code) (Q : Exit → Act → World → Prop) (a : Act) (w : World) : Prop :=
  ∀ (b : Frame) (k : List Item) (cs : List Frame), b.fn = f0 → b.roundOf = F.round → F.fn b.fn → F.room (cs.length + 1 + n) →
    ∃ e a' w', Q e a' w' ∧ ArrivesIn (Machine.fenced P F) P (lone (b.atR a (.code c :: k)) cs w) b k cs e a' w'
section
variable {F : Fence} {n : Nat} {P : Program} {f0 : FuncId} {Q : Exit → Act → World → Prop} {a : Act} {w : World}
theorem wpAt_of_wpIn {c : Code} (h : c.wpIn F n P Q a w) : Code.wpAt f0 F n P c Q a w := fun b k cs _ hro hb hr => h b k cs hro hb hr
theorem wpAt_seq {x y : Code} (h : Code.wpAt f0 F n P x (Exit.then (Code.wpAt f0 F n P y Q) Q) a w) : Code.wpAt f0 F n P (Code.seq x y) Q a w := by
  intro b k cs hf hro hb hr
  have h0 : (lone (b.atR a (.code (.seq x y) :: k)) cs w).fenced P F := fenced_calm hb hr rfl
  obtain ⟨e, a₁, w₁, hq, harr⟩ := h b (.code y :: k) cs hf hro hb hr
  cases e with
  | normal =>
    obtain ⟨e₂, a₂, w₂, hq₂, harr₂⟩ := hq b k cs hf hro hb hr
    exact ⟨e₂, a₂, w₂, hq₂, .of_steps (.head h0 stepR_seq harr) harr₂⟩
  | exit id => exact ⟨_, a₁, w₁, hq, .of_steps (.one h0 stepR_seq) (.pass (x := .code y) rfl (fun _ _ => .inl (by simp)) harr)⟩
  | goto l => exact ⟨_, a₁, w₁, hq, .of_steps (.one h0 stepR_seq) (.pass (x := .code y) rfl (fun _ _ => .inl (by simp)) harr)⟩
  | ret => exact ⟨_, a₁, w₁, hq, .of_steps (.one h0 stepR_seq) (.pass (x := .code y) rfl (fun _ _ => .inl (by simp)) harr)⟩
  | panic ch => exact ⟨_, a₁, w₁, hq, .of_steps (.one h0 stepR_seq) (.pass (x := .code y) rfl (fun _ _ => .inl (by simp)) harr)⟩
  | outgrown => exact ⟨_, a₁, w₁, hq, .of_steps (.one h0 stepR_seq) (.pass (x := .code y) rfl (fun _ _ => .inl (by simp)) harr)⟩
theorem callsIn_of_wpAt_marks {f : FuncId} {fn : Func} {c : Code} {args : Array Value} {w : World} {R : Ending → World → Prop}
    (hf : P.funcs[f]? = some fn) (hb : fn.body = some c) (hF : F.fn f)
    (h : Code.wpAt f F n P c (bodyPostM F n P fn R) { tmps := args ++ Array.replicate (fn.ntmps - args.size) undef, defers := [] } w) (hro : F.round = none := by rfl) : CallsIn F n P f args w R := by
  refine ⟨hF, fun cs hr => ?_⟩
  let b : Frame := { (default : Frame) with fn := f, kind := .normal, roundOf := none }
  have henter : Frame.enter P f args .normal =
      b.atR { tmps := args ++ Array.replicate (fn.ntmps - args.size) undef, defers := [] } [.code c] := by
    simp [Frame.enter, Frame.atR, hf, hb, b]
  obtain ⟨e, a', w', hq, harr⟩ := h b [] cs rfl hro.symm hF hr
  rw [← henter] at harr
  cases e with
  | normal =>
    obtain ⟨e', w'', fr', hR, hs, hfn, hl⟩ := leaves_stepsInM a'.defers .returning w' { b.atR a' [] with mode := .returning } cs rfl rfl rfl hf rfl hF hr hq
    exact ⟨e', w'', fr', hR, ComesIn.of_steps (StepsIn.trans harr (.one (fenced_calm (fr := b.atR a' []) hF hr rfl) (stepR_end rfl))) hs, hfn, hl⟩
  | ret =>
    obtain ⟨todo, hs₀⟩ := harr.1 rfl
    obtain ⟨e', w'', fr', hR, hs, hfn, hl⟩ := leaves_stepsInM a'.defers .returning w' { b.atR a' todo with mode := .returning } cs rfl rfl rfl hf rfl hF hr hq
    exact ⟨e', w'', fr', hR, ComesIn.of_steps hs₀ hs, hfn, hl⟩
  | panic chain =>
    obtain ⟨todo, hs₀⟩ := harr
    obtain ⟨e', w'', fr', hR, hs, hfn, hl⟩ := leaves_stepsInM a'.defers (.panicking chain) w' { b.atR a' todo with mode := .panicking chain } cs rfl rfl rfl hf rfl hF hr hq
    exact ⟨e', w'', fr', hR, ComesIn.of_steps hs₀ hs, hfn, hl⟩
  | exit id => exact hq.elim
  | goto l => exact hq.elim
  | outgrown => exact ⟨.outgrown, w', b, hq, harr.resolve_left (by simp [b]), rfl, trivial⟩
theorem wpAt_rangeFunc {g : Operand} {ps : Array Tmp} {assign body : Code}
    (h : ∃ (l : Nat) (mark : List Deferred) (w₁ : World) (d : Deferred) (w₁' : World) (f : FuncId) (args : Array Value) (w₂ : World),
      (Instr.enterLoop f0 a.tmps ps assign body F.round).run P w = .ok (l, mark) w₁ ∧
      (resolve a.eval (rangeCall g l) 0).run P w₁ = .ok d w₁' ∧
      (∀ f', Target.leads P w₁' d.target d.args = some f' → F.fn f') ∧
      (invoke d.target d.args).run P w₁' = .ok (.enter f args) w₂ ∧
      (F.depth.isSome = true → 1 ≤ n) ∧
      CallsIn F (n - 1) P f args w₂ (rangePost F n P l Q { a with defers := mark ++ a.defers })) :
    Code.wpAt f0 F n P (Code.rangeFunc g ps assign body) Q a w := by
  intro b k cs hbf hro hb hr
  obtain ⟨l, mark, w₁, d, w₁', f, args, w₂, he, hres, hlead, hinv, hn, hF, hcall⟩ := h
  rw [← hro, ← hbf] at he
  have h0 : (lone (b.atR a (.code (.rangeFunc g ps assign body) :: k)) cs w).fenced P F := by
    refine fenced_lone (.inl hb) (fun f' hf' => hlead f' ?_) (Fence.room_le hr (by omega))
    have hev := Frame.eval_atR b a (.code (.rangeFunc g ps assign body) :: k)
    simp only [Frame.atR] at hev
    simp only [Frame.about, Frame.atR, he, hev, hres] at hf'
    exact hf'
  have henter := stepR_rangeFunc (P := P) (b := b) (a := a) (k := k) (cs := cs) (w := w) he hres hinv
  have hroom : F.room ((b.atR { a with defers := mark ++ a.defers } (.inRangeFunc l :: k) :: cs).length + 1 + (n - 1)) := Fence.room_enter hr hn
  obtain ⟨e, w₃, fr, hR, hsteps, hfn, hleave⟩ := hcall (b.atR { a with defers := mark ++ a.defers } (.inRangeFunc l :: k) :: cs) hroom
  cases e with
  | outgrown =>
    obtain ⟨a₀, w₀, hq⟩ := hR
    exact ⟨.outgrown, a₀, w₀, hq, .inr (Outgrown.of_steps (.one henter) hsteps)⟩
  | returned v =>
    have hl : (lone fr (b.atR { a with defers := mark ++ a.defers } (.inRangeFunc l :: k) :: cs) w₃).fenced P F := fenced_leaving (hfn ▸ hF) hroom hleave
    obtain ⟨jump, w₄, hend, hj⟩ := hR
    have sback : StepsIn (Machine.fenced P F) P (lone (b.atR a (.code (.rangeFunc g ps assign body) :: k)) cs w) (lone (b.atR { a with defers := mark ++ a.defers } ((jump.map Item.code).toList ++ k)) cs w₄) := by
      refine .head h0 henter (StepsIn.trans hsteps (.head hl ?_ (.one (fenced_calm (fr := b.atR { a with defers := mark ++ a.defers } (.endRangeFunc l :: k)) hb hr rfl) (stepR_endRangeFunc hend))))
      rw [← finish_atR_inRangeFunc l v]; exact step_leave_returned hleave
    cases jump with
    | none => exact ⟨.normal, _, w₄, hj, sback⟩
    | some c =>
      obtain ⟨e', a'', w₅, hq, harr⟩ := hj b k cs hro hb hr
      exact ⟨e', a'', w₅, hq, .of_steps sback harr⟩
  | panicked chain =>
    have hl : (lone fr (b.atR { a with defers := mark ++ a.defers } (.inRangeFunc l :: k) :: cs) w₃).fenced P F := fenced_leaving (hfn ▸ hF) hroom hleave
    refine ⟨.panic chain, _, w₃, hR, .inRangeFunc l :: k, .head h0 henter (StepsIn.trans hsteps (.one hl ?_))⟩
    rw [← Frame.raise_atR]; exact step_leave_panicked hleave
end
def SeqX {α : Type} (P : Program) (gf : Nat) (lb : Array Value) (encs : α → Array Value) (Rd : Nat → Prop) (S Sp : List α → Prop) (N : Nat) (W : World) : Prop :=
  ∀ (l : Nat) (J Jx : (Nat → Prop) → List α → World → Prop) (Jp : List PanicEntry → (Nat → Prop) → List α → World → Prop), Stable W.heap.size J → Stable W.heap.size Jx →
    (∀ O pre x X, (∀ k, O k → W.heap.size ≤ k ∧ k < X.heap.size) → J O pre X → pre.length < N → Sp (pre ++ [x]) → YieldAt Fence.wide 0 P l (encs x) X fun e X' =>
      (e = .returned (.bool true) ∧ J O (pre ++ [x]) X' ∧ Keep (fun k => O k ∨ Rd k) X X') ∨ (e = .returned (.bool false) ∧ Jx O (pre ++ [x]) X' ∧ Keep (fun k => O k ∨ Rd k) X X') ∨ (∃ ch, e = .panicked ch ∧ Jp ch O (pre ++ [x]) X')) →
    J (fun _ => False) [] W →
    CallsIn Fence.wide 0 P gf (#[.func (.yield l) #[] #[]] ++ lb) W fun e W' => ((∃ v, e = .returned v) ∧ ((∃ xs O, S xs ∧ (∀ k, O k → W.heap.size ≤ k) ∧ J O xs W') ∨ (∃ pre O, Sp pre ∧ (∀ k, O k → W.heap.size ≤ k) ∧ Jx O pre W'))) ∨
      (∃ ch pre O, e = .panicked ch ∧ Sp pre ∧ (∀ k, O k → W.heap.size ≤ k) ∧ Jp ch O pre W')
def postX {α : Type} (O : Nat → Prop) (I : (Nat → Prop) → List α → World → Prop) (Ix : Code → (Nat → Prop) → List α → World → Prop) (Ip : List PanicEntry → (Nat → Prop) → List α → World → Prop) (K : Nat → Prop) (pre : List α) (W : World) : Exit → Act → World → Prop
  | .panic ch, a, W' => a.defers = [] ∧ Keep K W W' ∧ Ip ch O pre W'
  | e, a, W' => postB O I Ix K pre W e a W'
theorem wp_rangeX {f0 : FuncId} {P : Program} {α : Type} {g : Operand} {ps : Array Tmp} {assign body : Code} {Q : Exit → Act → World → Prop} {a : Act} {w : World}
    {gf : Nat} {lb : Array Value} (hg : a.eval g = .func (.func gf) #[] lb) (eg : ∀ args w, (callFunc gf args).run P w = .ok (.enter gf args) w)
    {encs : α → Array Value} {Rd : Nat → Prop} {S Sp : List α → Prop} {N : Nat} (hRd : ∀ k, Rd k → k < w.heap.size)
    (hseq : ∀ W, Below w.heap.size w W → SeqX P gf lb encs Rd S Sp N W) (hps : ∀ x, (encs x).size = ps.size)
    (I : (Nat → Prop) → List α → World → Prop) (Ix : Code → (Nat → Prop) → List α → World → Prop) (Ip : List PanicEntry → (Nat → Prop) → List α → World → Prop) (hI : Stable w.heap.size I) (hIx : ∀ c, Stable w.heap.size (Ix c)) (h0 : I (fun _ => False) [] w) (hfs : ∃ fn, P.funcs[f0]? = some fn)
    (hround : ∀ (l : Nat) (O : Nat → Prop) (pre : List α) (x : α) (W : World), O l → (∀ k, O k → w.heap.size ≤ k ∧ k < W.heap.size) → I O pre W → pre.length < N → Sp (pre ++ [x]) →
      assign.wpIn (Fence.wide.inRound l) 0 P (Exit.then (fun a₁ W₁ => Keep (fun k => O k ∨ Rd k) W W₁ ∧ ∀ W₂, Only (· = l) W₁ W₂ → body.wpIn (Fence.wide.inRound l) 0 P (postX O I Ix Ip (fun k => O k ∨ Rd k) (pre ++ [x]) W₂) a₁ W₂) (fun _ _ _ => False))
        { tmps := (ps.zip (encs x)).foldl (fun t (p, v) => t.setIfInBounds p v) a.tmps, defers := [] } W)
    (hdone : ∀ (D : Nat) (xs : List α) (O : Nat → Prop) (W : World), w.heap.size ≤ D → O D → (∀ k, O k → w.heap.size ≤ k) → S xs → I O xs W → W.heap[D]? = some (.deferred (some [])) → Q .normal { a with defers := { target := .collected D, args := #[] } :: a.defers } W)
    (hstop : ∀ (D : Nat) (c : Code) (pre : List α) (O : Nat → Prop) (W : World), w.heap.size ≤ D → O D → (∀ k, O k → w.heap.size ≤ k) → Sp pre → Ix c O pre W → W.heap[D]? = some (.deferred (some [])) → c.wpIn Fence.wide 0 P Q { a with defers := { target := .collected D, args := #[] } :: a.defers } W)
    (hpan : ∀ (D : Nat) (ch : List PanicEntry) (pre : List α) (O : Nat → Prop) (W : World), w.heap.size ≤ D → O D → (∀ k, O k → w.heap.size ≤ k) → Sp pre → Ip ch O pre W → W.heap[D]? = some (.deferred (some [])) → Q (.panic ch) { a with defers := { target := .collected D, args := #[] } :: a.defers } W) :
    Code.wpAt f0 Fence.wide 0 P (Code.rangeFunc g ps assign body) Q a w := by
  refine wpAt_rangeFunc ?_
  have hfn : Fence.wide.fn f0 := trivial
  rw [Fence.wide_round]
  obtain ⟨rec, hrec⟩ : ∃ rec : LoopState → Option Code → Loop, rec = fun st pe => { state := st, pending := pe, fn := f0, tmps := a.tmps, params := ps, assign, body, defers := w.heap.size } := ⟨_, rfl⟩
  obtain ⟨W1, hW1⟩ : ∃ W1, (w.alloc (.deferred (some []))).alloc (.loop (rec .ready none)) = W1 := ⟨_, rfl⟩
  have hs1 : W1.heap.size = w.heap.size + 2 := by rw [← hW1]; simp
  have hL1 : W1.heap[w.heap.size + 1]? = some (.loop (rec .ready none)) := by
    rw [← hW1]; have := World.alloc_heap_new (w.alloc (.deferred (some []))) (.loop (rec .ready none)); rwa [World.size_alloc] at this
  have hK1 : W1.heap[w.heap.size]? = some (.deferred (some [])) := by
    rw [← hW1]; exact (Below.heap_alloc _ _ _ (by simp)).trans (World.alloc_heap_new w _)
  have hb1 : Below w.heap.size w W1 := by rw [← hW1]; exact xalloc (xalloc (xrefl w) _) _
  refine ⟨w.heap.size + 1, [{ target := .collected w.heap.size, args := #[] }], W1, { target := .fn (.func gf) lb, args := #[.func (.yield (w.heap.size + 1)) #[] #[]] }, W1, gf,
    #[.func (.yield (w.heap.size + 1)) #[] #[]] ++ lb, W1, ?_, ?_, fun _ _ => trivial, ?_, (fun h => by cases h), ?_⟩
  · rw [← hW1, hrec]; exact run_enterLoop_outer _ _ _ _ _
  · simp only [resolve, hg]
    simp [go_sem]
  · simp [invoke, go_sem, eg]
  · have two : ∀ (O : Nat → Prop), (∀ k, O k → W1.heap.size ≤ k) → (∀ k, (O k ∨ k = w.heap.size ∨ k = w.heap.size + 1) → w.heap.size ≤ k) := fun O hO k hk => by
      rcases hk with h | h | h
      · have := hO k h; omega
      · omega
      · omega
    have stab : ∀ (R : Loop) (J : (Nat → Prop) → List α → World → Prop), Stable w.heap.size J →
        Stable W1.heap.size (fun O pre W => J (fun k => O k ∨ k = w.heap.size ∨ k = w.heap.size + 1) pre W ∧ w.heap.size + 1 < W.heap.size ∧ W.heap[w.heap.size + 1]? = some (.loop R) ∧ W.heap[w.heap.size]? = some (.deferred (some []))) := by
      rintro R J hJ O O' s W W' ⟨hj, hlt, hl, hk⟩ hO hon hO'
      refine ⟨hJ _ _ s W W' hj (two O hO) (hon.mono fun k _ h => .inl h) (fun k h => ?_), Nat.lt_of_lt_of_le hlt hon.size, ?_, ?_⟩
      · rcases h with h | h
        · rcases hO' k h with h | h
          · exact .inl (.inl h)
          · exact .inr h
        · exact .inl (.inr h)
      · rw [hon.same _ hlt (fun h => by have := hO _ h; omega)]; exact hl
      · rw [hon.same _ (by omega) (fun h => by have := hO _ h; omega)]; exact hk
    refine (hseq W1 hb1 (w.heap.size + 1)
      (fun O pre W => I (fun k => O k ∨ k = w.heap.size ∨ k = w.heap.size + 1) pre W ∧ w.heap.size + 1 < W.heap.size ∧ W.heap[w.heap.size + 1]? = some (.loop (rec .ready none)) ∧ W.heap[w.heap.size]? = some (.deferred (some [])))
      (fun O pre W => ∃ c, Ix c (fun k => O k ∨ k = w.heap.size ∨ k = w.heap.size + 1) pre W ∧ w.heap.size + 1 < W.heap.size ∧ W.heap[w.heap.size + 1]? = some (.loop (rec .done (some c))) ∧ W.heap[w.heap.size]? = some (.deferred (some [])))
      (fun ch O pre W => Ip ch (fun k => O k ∨ k = w.heap.size ∨ k = w.heap.size + 1) pre W ∧ W.heap[w.heap.size]? = some (.deferred (some [])))
      (stab _ I hI)
      (by
        rintro O O' s W W' ⟨c, h⟩ hO hon hO'
        exact ⟨c, stab (rec .done (some c)) (Ix c) (hIx c) O O' s W W' h hO hon hO'⟩)
      ?_ ⟨hI _ _ [] w W1 h0 (fun k h => h.elim) ⟨hb1.os, hb1.tape, hb1.output, hb1.size, fun k hk _ => hb1.block k hk⟩ (fun k h => .inr (by rcases h with h | h | h <;> first | exact h.elim | omega)), by omega, hL1, hK1⟩).mono ?_
    · rintro O pre x W hO ⟨hi, hlt, hl, hk⟩ hlen hsp
      have hy := run_yield (P := P) (args := encs x) hl (by rw [hrec]; exact hps x)
      rw [hrec] at hy
      obtain ⟨T, hT⟩ : ∃ T : Nat → Prop, T = fun k => O k ∨ k = w.heap.size ∨ k = w.heap.size + 1 := ⟨_, rfl⟩
      have hTl : T (w.heap.size + 1) := by rw [hT]; exact .inr (.inr rfl)
      have hTD : T w.heap.size := by rw [hT]; exact .inr (.inl rfl)
      have hTk : ∀ k, T k → w.heap.size ≤ k ∧ k < W.heap.size := fun k h => by
        rw [hT] at h
        rcases h with h | h | h
        · have := hO k h; exact ⟨by omega, this.2⟩
        · exact ⟨by omega, by omega⟩
        · exact ⟨by omega, by omega⟩
      refine ⟨f0, _, assign, body, hy, roundIn_of_wpInX hfn (wpIn_mono (hround (w.heap.size + 1) T pre x W hTl hTk (by rw [hT]; exact hi) hlen hsp) ?_)⟩
      rintro e a₁ W₁ hp
      cases e with
      | normal =>
        obtain ⟨hkp, hb⟩ := hp
        have hl1 : W₁.heap[w.heap.size + 1]? = some (.loop (rec .ready none)) := (hkp.same _ hlt (.inl hTl)).trans hl
        have hk1 : W₁.heap[w.heap.size]? = some (.deferred (some [])) := (hkp.same _ (by omega) (.inl hTD)).trans hk
        have hlt1 : w.heap.size + 1 < W₁.heap.size := Nat.lt_of_lt_of_le hlt hkp.size
        refine ⟨_, run_beginRound hl1 (by rw [hrec]), ?_⟩
        have hl2 : (W₁.putObj (w.heap.size + 1) (.loop { rec .ready none with state := .busy })).heap[w.heap.size + 1]? = some (.loop { rec .ready none with state := .busy }) := World.putObj_heap_same hlt1
        have hk2 : (W₁.putObj (w.heap.size + 1) (.loop { rec .ready none with state := .busy })).heap[w.heap.size]? = some (.deferred (some [])) := (World.putObj_heap_other (by omega)).trans hk1
        have hsz2 : (W₁.putObj (w.heap.size + 1) (.loop { rec .ready none with state := .busy })).heap.size = W₁.heap.size := World.putObj_size
        have hon : Only (· = w.heap.size + 1) W₁ (W₁.putObj (w.heap.size + 1) (.loop { rec .ready none with state := .busy })) := (Only.refl _ _).putObj _ _ rfl
        refine wpIn_mono (hb _ hon) ?_
        have fin : ∀ (jump : Option Code) (W3 : World), Keep (fun k => T k ∨ Rd k) (W₁.putObj (w.heap.size + 1) (.loop { rec .ready none with state := .busy })) W3 →
            (Instr.endRound (w.heap.size + 1) jump).run P W3 = .ok (.bool jump.isNone) (W3.putObj (w.heap.size + 1) (.loop (rec (if jump.isNone then .ready else .done) jump))) ∧
            w.heap.size + 1 < W3.heap.size ∧ W3.heap[w.heap.size]? = some (.deferred (some [])) := fun jump W3 hk3 => by
          have hl3 := (hk3.same _ (by rw [hsz2]; exact hlt1) (.inl hTl)).trans hl2
          have hA := Nat.lt_of_lt_of_le (by rw [hsz2]; exact hlt1) hk3.size
          have hB := (hk3.same _ (by rw [hsz2]; omega) (.inl hTD)).trans hk2
          refine ⟨?_, hA, hB⟩
          have := run_endRound (P := P) jump hl3
          rw [hrec] at this ⊢
          exact this
        have kept : ∀ W3 o', Keep (fun k => T k ∨ Rd k) (W₁.putObj (w.heap.size + 1) (.loop { rec .ready none with state := .busy })) W3 → Keep (fun k => O k ∨ Rd k) W (W3.putObj (w.heap.size + 1) o') := fun W3 o' hk3 => by
          have nl : ∀ k, k < W.heap.size → (O k ∨ Rd k) → k ≠ w.heap.size + 1 := fun k hk h e => by
            rcases h with h | h
            · have := hO k h; omega
            · have := hRd k h; omega
          refine ⟨by rw [World.putObj_size]; exact Nat.le_trans hkp.size (Nat.le_trans (Nat.le_of_eq hsz2.symm) hk3.size), fun k hk h => ?_⟩
          have hTo : T k ∨ Rd k := by rw [hT]; rcases h with h | h; exact .inl (.inl h); exact .inr h
          rw [World.putObj_heap_other (nl k hk h), hk3.same k (by rw [hsz2]; exact Nat.lt_of_lt_of_le hk hkp.size) hTo, World.putObj_heap_other (nl k hk h), hkp.same k hk hTo]
        have stabT : ∀ (J : (Nat → Prop) → List α → World → Prop), Stable w.heap.size J → ∀ xs W3 o', J T xs W3 → J (fun k => O k ∨ k = w.heap.size ∨ k = w.heap.size + 1) xs (W3.putObj (w.heap.size + 1) o') := fun J hJ xs W3 o' hj => by
          rw [← hT]
          exact hJ T T xs W3 _ hj (fun k h => (hTk k h).1) ((Only.refl _ _).putObj _ _ hTl) (fun k h => .inl h)
        rintro e a3 W3 hp
        cases e with
        | normal =>
          obtain ⟨hk3, hi3⟩ := hp
          obtain ⟨hr, hlt3, hk4⟩ := fin none W3 hk3
          exact ⟨_, _, hr, .inl ⟨rfl, ⟨stabT I hI _ _ _ hi3, by rw [World.putObj_size]; exact hlt3, World.putObj_heap_same hlt3, (World.putObj_heap_other (by omega)).trans hk4⟩, kept _ _ hk3⟩⟩
        | ret =>
          obtain ⟨hk3, hi3⟩ := hp
          obtain ⟨hr, hlt3, hk4⟩ := fin (some .ret) W3 hk3
          exact ⟨_, _, hr, .inr (.inl ⟨rfl, ⟨.ret, stabT _ (hIx _) _ _ _ hi3, by rw [World.putObj_size]; exact hlt3, World.putObj_heap_same hlt3, (World.putObj_heap_other (by omega)).trans hk4⟩, kept _ _ hk3⟩)⟩
        | exit id =>
          obtain ⟨hk3, hi3⟩ := hp
          obtain ⟨hr, hlt3, hk4⟩ := fin (some (.exit id)) W3 hk3
          exact ⟨_, _, hr, .inr (.inl ⟨rfl, ⟨.exit id, stabT _ (hIx _) _ _ _ hi3, by rw [World.putObj_size]; exact hlt3, World.putObj_heap_same hlt3, (World.putObj_heap_other (by omega)).trans hk4⟩, kept _ _ hk3⟩)⟩
        | goto t =>
          obtain ⟨hk3, hi3⟩ := hp
          obtain ⟨hr, hlt3, hk4⟩ := fin (some (.goto t)) W3 hk3
          exact ⟨_, _, hr, .inr (.inl ⟨rfl, ⟨.goto t, stabT _ (hIx _) _ _ _ hi3, by rw [World.putObj_size]; exact hlt3, World.putObj_heap_same hlt3, (World.putObj_heap_other (by omega)).trans hk4⟩, kept _ _ hk3⟩)⟩
        | panic ch =>
          obtain ⟨hd3, hk3, hi3⟩ := hp
          obtain ⟨-, -, hk4⟩ := fin none W3 hk3
          exact ⟨hd3, hfs, .inr (.inr ⟨ch, rfl, by rw [← hT]; exact hi3, hk4⟩)⟩
        | outgrown => exact hp.elim
      | _ => exact hp.elim
    · rintro e W2 (⟨⟨v, rfl⟩, (⟨xs, O, hS, hO, hi, hlt, hl, hk⟩ | ⟨pre, O, hSp, hO, c, hi, hlt, hl, hk⟩)⟩ | ⟨ch, pre, O, rfl, hSp, hO, hi, hk⟩)
      · exact ⟨none, _, by have := run_endLoop (P := P) hl (by rw [hrec]; simp); rw [hrec] at this; exact this,
          hdone _ xs (fun k => O k ∨ k = w.heap.size ∨ k = w.heap.size + 1) _ (Nat.le_refl _) (.inr (.inl rfl)) (two O hO) hS
            (hI _ _ xs W2 _ hi (two O hO) ((Only.refl _ _).putObj _ _ (.inr (.inr rfl))) (fun k h => .inl h)) ((World.putObj_heap_other (by omega)).trans hk)⟩
      · exact ⟨some c, _, by have := run_endLoop (P := P) hl (by rw [hrec]; simp); rw [hrec] at this; exact this,
          hstop _ c pre (fun k => O k ∨ k = w.heap.size ∨ k = w.heap.size + 1) _ (Nat.le_refl _) (.inr (.inl rfl)) (two O hO) hSp
            (hIx c _ _ pre W2 _ hi (two O hO) ((Only.refl _ _).putObj _ _ (.inr (.inr rfl))) (fun k h => .inl h)) ((World.putObj_heap_other (by omega)).trans hk)⟩
      · exact hpan _ ch pre (fun k => O k ∨ k = w.heap.size ∨ k = w.heap.size + 1) _ (Nat.le_refl _) (.inr (.inl rfl)) (two O hO) hSp hi hk
end Go.Proofs.YtijkdabmegbcjaaGreatDoor
