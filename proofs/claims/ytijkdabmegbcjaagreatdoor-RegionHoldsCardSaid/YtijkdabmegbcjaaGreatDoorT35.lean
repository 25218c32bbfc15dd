/- Texts of this claim, merged; no condition. -/
import Derived.Test.YtijkdabmegbcjaaGreatDoorT34
import Derived.Test.YtijkdabmegbcjaaGreatDoorTA
set_option linter.all false
namespace Go.Proofs.YtijkdabmegbcjaaGreatDoor
open Go.RowKit Go.Shelf
def newTS {O : Nat → Prop} (B : Nat) (hO : ∀ j, O j → j < B) (T : TypeId) (vs : List Value) : ToldS (fun W W' => Only O W W') := ⟨fun v => ∃ b : Nat, v = .pointer (some ⟨b, 0, none⟩), fun v W => ∀ b : Nat, v = .pointer (some ⟨b, 0, none⟩) → BlkG W b T vs ∧ B ≤ b, ⟨_, 0, rfl⟩, fun v W W' h ho b e => ⟨(h b e).1.only ho (fun hb => by have := hO b hb; have := (h b e).2; omega), (h b e).2⟩⟩
def goesO (O : Nat → Prop) (Sg : Bool → World → Prop) (Qp : List PanicEntry → World → Prop) (k : Nat) (hk : ∀ b {W W'}, Sg b W → Below W.heap.size W W' → Sg b W') : Goes := ⟨fun W W' => Only O W W', Sg, Qp, k, fun W => Only.refl _ W, fun h g => h.trans g, Below.only, hk⟩
theorem wpGrowS_lookI {P : Program} {ops : Array Oper} {G : Goes} {w : World} {L : Nat → ToldS G.Sty} {K : List Value → Act → Prop} {o : Oper} {rest : List Oper} {s : List Value} {a : Act} (hgd : o.guard = none) (t k e : TypeId) (q : IntKind) (x y : Operand) (ho : o.op = .lookup t x y false)
    (ht : P.underlying t = some (.map k e)) (hk : P.underlying k = some (.int q)) {z : Value} (hz : ∀ w, (zeroValue e).run P w = .ok z w) (n : Int) (b : Nat) (l : List (Int × Value)) (v : Value) (hx : a.eval x = .map (some b)) (hy : a.eval y = .int q n) (hb : ∀ W, G.Sty w W → W.heap[b]? = some (mapI q l)) (hv : (findI n l).getD z = v)
    (hL : L s.length = fixdS v) (hk' : decide (s.length = G.k) = false)
    (h : wpGrowS P ops G w L K rest (s ++ [v]) (a.put o.dst v)) : wpGrowS P ops G w L K (o :: rest) s a := by
  refine wpGrowS_fix _ hL hk' (by simp [Region.wanted, hgd]) (fun b' W _ hS _ => ?_) h
  have hr := run_lookI ht hk hz n W b l false (hb W hS)
  unfold execOp
  simp only [ho, hx, hy, Sem.run_bind, hr, Result.andThen_ok, Sem.run_pure, hv, Bool.false_eq_true, if_false]
  exact ⟨rfl, xrefl W⟩
theorem wpGrowS_entryI {P : Program} {ops : Array Oper} {G : Goes} {w : World} {L : Nat → ToldS G.Sty} {K : List Value → Act → Prop} {o : Oper} {rest : List Oper} {s : List Value} {a : Act} (T : ToldS G.Sty) (hL : L s.length = T) (hgd : o.guard = none) (t : TypeId) (x y : Operand) (ho : o.op = .mapEntry t x y)
    (b : Nat) (q : IntKind) (n : Int) (hx : a.eval x = .map (some b)) (hy : a.eval y = .int q n) (hk' : decide (s.length = G.k) = false)
    (hb : ∀ c W, G.Sg c W → G.Sty w W → ∃ u, (Instr.mapEntry t (.map (some b)) (.int q n)).run P W = .ok u W ∧ T.is u ∧ T.mem u W)
    (h : ∀ v, T.is v → wpGrowS P ops G w L K rest (s ++ [v]) (a.put o.dst v)) : wpGrowS P ops G w L K (o :: rest) s a := by
  refine wpGrowS_any T hL (by simp [Region.wanted, hgd]) (fun c W _ hS hb' _ => ?_) h
  obtain ⟨u, hr, h1, h2⟩ := hb c W hS hb'
  unfold execOp
  simp only [ho, hx, hy, Sem.run_bind, hr, Result.andThen_ok, Sem.run_pure]
  rw [hk']
  exact ⟨⟨h1, h2⟩, G.refl W, by simpa using hS⟩
theorem wpGrowS_entryStore {P : Program} {ops : Array Oper} {G : Goes} {w : World} {L : Nat → ToldS G.Sty} {K : List Value → Act → Prop} {o : Oper} {rest : List Oper} {s : List Value} {a : Act} (hL : L s.length = fixdS undef) (hgd : o.guard = none) (t : TypeId) (x y z : Operand) (ho : o.op = .entryStore t x y z) (X Y Z : Value) (hx : a.eval x = X) (hy : a.eval y = Y) (hz : a.eval z = Z) (hk : decide (s.length = G.k) = true)
    (hb : ∀ W, G.Sg false W → G.Sty w W → ∃ W', (Instr.entryStore t X Y Z).run P W = .ok () W' ∧ G.Sty W W' ∧ G.Sg true W')
    (h : wpGrowS P ops G w L K rest (s ++ [undef]) (a.put o.dst undef)) : wpGrowS P ops G w L K (o :: rest) s a := by
  refine wpGrowS_any _ hL (by simp [Region.wanted, hgd]) (fun c W hc hS hb' _ => ?_) (fun v hv => by have : v = undef := hv; subst this; exact h)
  obtain rfl := hc hk
  obtain ⟨W', hr, h1, h2⟩ := hb W hS hb'
  unfold execOp
  simp only [ho, hx, hy, hz, Sem.run_bind, hr, Result.andThen_ok, Sem.run_pure]
  rw [hk]
  exact ⟨⟨rfl, trivial⟩, h1, h2⟩
theorem wpList_entryI_new {P : Program} {ops : Array Oper} {rest : List Oper} {o : Oper} {a : Act} {w : World} {Q : Exit → Act → World → Prop} (hgd : o.guard = none) (t k e : TypeId) (q : IntKind) (x y : Operand) (ho : o.op = .mapEntry t x y)
    (ht : P.underlying t = some (.map k e)) (hk : P.underlying k = some (.int q)) {z : Value} (hz : ∀ w, (zeroValue e).run P w = .ok z w) (n : Int) (b : Nat) (l : List (Int × Value)) (hx : a.eval x = .map (some b)) (hy : a.eval y = .int q n) (hb : w.heap[b]? = some (mapI q l)) (hn : n ∉ l.map (·.1))
    (h : ∀ w', w'.heap[b]? = some (mapI q (l ++ [(n, z)])) → Only (· = b) w w' → wpList P ops Q rest (a.put o.dst (.tuple #[z, .int .i64 (l.length : Nat)])) w') : wpList P ops Q (o :: rest) a w := by
  refine wpList_plain hgd fun _ hK => ?_
  have hr := run_entryI_new ht hk hz n w b l hb hn
  unfold Oper.wp execOp
  simp only [ho, hx, hy, Sem.run_bind, hr, Result.andThen_ok, Sem.run_pure]
  have hlt : b < w.heap.size := (Array.getElem?_eq_some_iff.1 hb).1
  exact hK _ _ (h _ (World.putObj_heap_same hlt) ((Only.refl _ _).putObj b _ rfl))
theorem wpList_entryStore_last {P : Program} {ops : Array Oper} {rest : List Oper} {o : Oper} {a : Act} {w : World} {Q : Exit → Act → World → Prop} (hgd : o.guard = none) (t : TypeId) (q : IntKind) (x y z : Operand) (ho : o.op = .entryStore t x y z)
    (b : Nat) (l : List (Int × Value)) (n : Int) (u v : Value) (hx : a.eval x = .map (some b)) (hy : a.eval y = .int .i64 (l.length : Nat)) (hz : a.eval z = v) (hb : w.heap[b]? = some (mapI q (l ++ [(n, u)])))
    (h : ∀ w', w'.heap[b]? = some (mapI q (l ++ [(n, v)])) → Only (· = b) w w' → wpList P ops Q rest (a.put o.dst undef) w') : wpList P ops Q (o :: rest) a w := by
  refine wpList_plain hgd fun _ hK => ?_
  have hr := run_storeEntry_last (P := P) (t := t) v hb
  unfold Oper.wp execOp
  simp only [ho, hx, hy, hz, Sem.run_bind, hr, Result.andThen_ok, Sem.run_pure]
  have hlt : b < w.heap.size := (Array.getElem?_eq_some_iff.1 hb).1
  exact hK _ _ (h _ (World.putObj_heap_same hlt) ((Only.refl _ _).putObj b _ rfl))
theorem nodup_idx {l : List Int} (h : l.Nodup) {i j : Nat} {n : Int} (hi : l[i]? = some n) (hj : l[j]? = some n) : i = j := by
  obtain ⟨h1, e1⟩ := List.getElem?_eq_some_iff.1 hi
  obtain ⟨h2, e2⟩ := List.getElem?_eq_some_iff.1 hj
  have hp := List.pairwise_iff_getElem.1 h
  rcases Nat.lt_trichotomy i j with hlt | he | hlt
  · exact absurd (e1.trans e2.symm) (hp i j h1 h2 hlt)
  · exact he
  · exact absurd (e2.trans e1.symm) (hp j i h2 h1 hlt)
theorem updI_keys {n : Int} {v : Value} : ∀ {l : List (Int × Value)}, n ∈ l.map (·.1) → (updI n v l).map (·.1) = l.map (·.1)
  | [], h => by cases h
  | x :: l, h => by
    unfold updI
    split
    · rename_i e; simp [e]
    · rename_i hx
      rw [List.map_cons, List.mem_cons] at h
      simp [updI_keys (h.resolve_left hx)]
def entT {Sty : World → World → Prop} (d : Nat) : ToldS Sty := ⟨fun v => ∃ u, v = .tuple #[u, .int .i64 (d : Nat)], fun _ _ => True, ⟨_, undef, rfl⟩, fun _ _ _ _ _ => trivial⟩
section
variable {cs : List Nat} {bs : List BlkN} {a : Option Addr} {c lb mb en kb db lo : Nat}
set_option maxRecDepth 100000 in
set_option maxHeartbeats 8000000 in
theorem from_any (hok : ∀ b ∈ cs, b < 256) (hlc : cs.length ≤ 200) (hlb : bs.length ≤ 200) (hfi : ∀ B ∈ bs, findB bs B.first = some B) (hnx : ∀ k ∈ bs.map (·.first), ∀ x ∈ (blkOf bs k).next, x ∈ bs.map (·.first)) (hnl : ∀ B ∈ bs, B.next.length ≤ 200) :
    ∀ (f : Nat) (σ : KnS) (k : Nat) (W : World), InvK cs bs en σ → EnvR cs bs a c lb mb en kb db lo W → KnAt W kb db σ → k ∈ bs.map (·.first) → unK bs σ < f → Calls Tryz.prog 127 #[.pointer (some ⟨lb, 0, none⟩), .int .i64 k] W (FromR kb db (fromF cs bs en f σ k) W) := by
  intro f
  induction f with
  | zero => intro σ k W _ _ _ _ hu; omega
  | succ f IH =>
    intro σ k W hI hE hK hm hu
    have hsides := qh fun σ next p q W => sides_any f (from_sound hnx f) IH σ next p q W
    have hsound := qh (from_sound hnx f (cs := cs) (en := en))
    have hst := Tryz.underlying142
    have hzS : Hid (∀ w, (zeroValue 142).run Tryz.prog w = .ok (stV zeroS) w) := qh fun _ => by kernel_rfl
    have hzB : ∀ w, (zeroValue 51).run Tryz.prog w = .ok (.agg #[.int .i64 0, .int .i64 0, .slice none 0 0, .bool false]) w := fun _ => by kernel_rfl
    have hzb : ∀ w, (zeroValue 4).run Tryz.prog w = .ok (.bool false) w := fun _ => by kernel_rfl
    have hb1 : Below W.heap.size W (W.alloc (.cells #[.int .u64 0, .int .u64 0, .int .i64 0, .int .i64 0, .int .i64 0] 142)) := xalloc (xrefl W) _
    have hR1 : BlkG (W.alloc (.cells #[.int .u64 0, .int .u64 0, .int .i64 0, .int .i64 0, .int .i64 0] 142)) W.heap.size 142 (stC zeroS) := BlkG.new W _ _
    have hs1 : (W.alloc (.cells #[.int .u64 0, .int .u64 0, .int .i64 0, .int .i64 0, .int .i64 0] 142)).heap.size = W.heap.size + 1 := World.size_alloc _ _
    have hK1 := hK.below hb1
    have hE1 := hE.below hb1
    have cl2 := hE1.look.cell 2 (by simp [LookC])
    have cl3 := hE1.look.cell 3 (by simp [LookC])
    have cl4 := hE1.look.cell 4 (by simp [LookC])
    have cw2 := hE.look.cell 2 (by simp [LookC])
    simp only [LookC, List.getElem_cons_succ, List.getElem_cons_zero] at cl2 cl3 cl4 cw2
    obtain ⟨R, hR⟩ : ∃ R, R = fromF cs bs en (f + 1) σ k := ⟨_, rfl⟩
    rw [← hR]
    unfold fromF at hR
    replace hR := qh hR
    replace hR1 := qh hR1
    have hO1 := qh (Below.only (O := TwoK kb db) hb1)
    have hlbW := qh hE.look.lt
    have hn3 := hE.n3
    have hn1 := qh hE.n1
    replace hI := qh hI
    replace hE := qh hE
    replace hE1 := qh hE1
    have hK0 := qh hK
    obtain ⟨l, d, hl, hd, hKL⟩ := hK1
    have hkW : kb < W.heap.size := by obtain ⟨l, d, h1, -⟩ := hK; exact (Array.getElem?_eq_some_iff.1 h1).1
    have hdW : db < W.heap.size := by obtain ⟨l, d, -, h1, -⟩ := hK; exact (Array.getElem?_eq_some_iff.1 h1).1
    have hf := hKL.find k
    have hfd := hKL.done k
    clear hK
    replace hKL := qh hKL
    replace hm := qh hm
    replace hu := qh hu
    replace hnl := qh hnl
    replace hfi := qh hfi
    replace hnx := qh hnx
    replace hb1 := qh hb1
    clear IH
    obtain ⟨i0, hi0, hz0, hz1, hz2⟩ := info_parts info_st
    replace hz0 : i0.zero = some (.agg #[.int .u64 0, .int .u64 0, .int .i64 0, .int .i64 0, .int .i64 0]) := hz0
    go_enter Tryz.func127, Tryz.ntmps127
    by_cases hen : k = en
    · subst hen
      have hRe := hR.out
      rw [if_pos rfl] at hRe
      subst hRe
      replace hf := qh hf
      replace hfd := qh hfd
      replace hl := qh hl
      replace hd := qh hd
      clear cl3 cl4
      go_wp2_with (refine wpList_store_blkG rfl 142 _ _ rfl W.heap.size rfl 142 (stC zeroS) (stC zeroS) hR1.out rfl rfl (by kernel_rfl) rfl ?_; intro w2 hA2 ho2; have hb2 := qh (ho2.below hb1.out hb1.out.size (by rintro j rfl; omega)); replace hA2 := qh hA2; clear ho2)
      exact bodyPost_ret (results_blkG rfl _ _ W.heap.size 142 _ _ rfl hA2.out hst rfl (by kernel_rfl)) rfl ⟨Below.only hb2.out, rfl, hK0.out.below hb2.out⟩
    · have henI : ¬ (k : Int) = (en : Int) := by omega
      have hRe := hR.out
      rw [if_neg hen] at hRe
      clear hR
      clear cw2
      cases hlk : lookK σ k with
      | some o =>
        rw [hlk] at hf hfd hRe
        cases o with
        | some s =>
          dsimp only at hRe
          subst hRe
          simp only [Option.map_some, Option.getD_some] at hf hfd
          have hl1 := qh hl
          have hd1 := qh hd
          clear hl hd
          go_wp2_with (first
            | (refine wpList_lookI rfl 139 3 142 .i64 _ _ true rfl (by kernel_rfl) (by kernel_rfl) hzS.out k kb l rfl rfl hl1.out ?_; rw [hf]; obtain ⟨w1, hw1⟩ : ∃ w1, W.alloc (.cells #[.int .u64 0, .int .u64 0, .int .i64 0, .int .i64 0, .int .i64 0] 142) = w1 := ⟨_, rfl⟩; rw [hw1] at hR1 hs1 cl2 cl3 cl4 hl1 hd1 hb1 hO1 hE1 ⊢; clear hw1)
            | (refine wpList_store_blkG rfl 142 _ _ rfl (W.heap.size + 1) rfl 142 (stC zeroS) (stC s) (by have := BlkG.new w1 142 (stC zeroS); rw [hs1] at this; exact this) rfl rfl (by kernel_rfl) rfl ?_; intro w2 hX2 ho2; have hb2 := qh (ho2.below (xalloc (xrefl w1) _) (by rw [World.size_alloc]; omega) (by rintro j rfl; omega)); have hd2 := qh ((hb2.out.block db (by omega)).trans hd1.out); have hR2 := qh (hR1.out.below hb2.out); have cl42 := cbel hb2.out cl4; have hb02 := qh (xtrans hb1.out hb2.out); replace hX2 := qh hX2; clear ho2)
            | (refine wpList_lookI rfl 95 3 4 .i64 _ _ false rfl (by kernel_rfl) (by kernel_rfl) hzb k db d rfl rfl hd2.out ?_; rw [if_neg (by decide), hfd, Option.getD_some])
            | (go_at_call 100; refine (must_true _).mono ?_; rintro e w' ⟨rfl, rfl⟩)
            | (refine wpList_load_blkG rfl 142 _ rfl (W.heap.size + 1) rfl 142 (stC s) _ hX2.out hst rfl (by kernel_rfl) ?_)
            | (refine wpList_store_blkG rfl 142 _ _ rfl W.heap.size rfl 142 (stC zeroS) (stC s) hR2.out rfl rfl (by kernel_rfl) rfl ?_; intro w3 hA3 ho3; have hb3 := qh (ho3.below hb02.out hb02.out.size (by rintro j rfl; omega)); replace hA3 := qh hA3; clear ho3))
          exact bodyPost_ret (results_blkG rfl _ _ W.heap.size 142 _ _ rfl hA3.out hst rfl (by kernel_rfl)) rfl ⟨Below.only hb3.out, rfl, hK0.out.below hb3.out⟩
        | none =>
          dsimp only at hRe
          subst hRe
          simp only [Option.map_some, Option.getD_none] at hf hfd
          have hl1 := qh hl
          have hd1 := qh hd
          clear hl hd
          go_wp2_with (first
            | (refine wpList_lookI rfl 139 3 142 .i64 _ _ true rfl (by kernel_rfl) (by kernel_rfl) hzS.out k kb l rfl rfl hl1.out ?_; rw [hf]; obtain ⟨w1, hw1⟩ : ∃ w1, W.alloc (.cells #[.int .u64 0, .int .u64 0, .int .i64 0, .int .i64 0, .int .i64 0] 142) = w1 := ⟨_, rfl⟩; rw [hw1] at hR1 hs1 cl2 cl3 cl4 hl1 hd1 hb1 hO1 hE1 ⊢; clear hw1)
            | (refine wpList_store_blkG rfl 142 _ _ rfl (W.heap.size + 1) rfl 142 (stC zeroS) (stC zeroS) (by have := BlkG.new w1 142 (stC zeroS); rw [hs1] at this; exact this) rfl rfl (by kernel_rfl) rfl ?_; intro w2 hX2 ho2; have hb2 := qh (ho2.below (xalloc (xrefl w1) _) (by rw [World.size_alloc]; omega) (by rintro j rfl; omega)); have hd2 := qh ((hb2.out.block db (by omega)).trans hd1.out); have cl42 := cbel hb2.out cl4; have hb02 := qh (xtrans hb1.out hb2.out); clear hX2 ho2)
            | (refine wpList_lookI rfl 95 3 4 .i64 _ _ false rfl (by kernel_rfl) (by kernel_rfl) hzb k db d rfl rfl hd2.out ?_; rw [if_neg (by decide), hfd, Option.getD_none])
            | (go_at_call 100; refine (must_false _).mono ?_; rintro e w' ⟨rfl, rfl⟩))
          exact ⟨rfl, Below.only hb02.out, rfl⟩
      | none =>
        have hKL2 := qh (hKL.out.open_ hlk)
        have hI0 := qh (hI.out.open_ hlk hm.out)
        have hu0 : Hid (unK bs ((k, none) :: σ) < f) := qh (by have := unK_open hlk hm.out; have := hu.out; omega)
        rw [hlk] at hf hfd hRe
        dsimp only at hRe
        simp only [Option.map_none] at hf hfd
        have hl1 := qh hl
        have hd1 := qh hd
        replace hRe := qh hRe
        replace hfd := qh hfd
        replace hlk := qh hlk
        clear hl hd
        go_wp2_with (first
            | (refine wpList_lookI rfl 139 3 142 .i64 _ _ true rfl (by kernel_rfl) (by kernel_rfl) hzS.out k kb l rfl rfl hl1.out ?_; rw [hf]; obtain ⟨w1, hw1⟩ : ∃ w1, W.alloc (.cells #[.int .u64 0, .int .u64 0, .int .i64 0, .int .i64 0, .int .i64 0] 142) = w1 := ⟨_, rfl⟩; rw [hw1] at hR1 hs1 cl2 cl3 cl4 hl1 hd1 hb1 hO1 hE1 ⊢; clear hw1)
            | (refine wpList_store_blkG rfl 142 _ _ rfl (W.heap.size + 1) rfl 142 (stC zeroS) (stC zeroS) (by have := BlkG.new w1 142 (stC zeroS); rw [hs1] at this; exact this) rfl rfl (by kernel_rfl) rfl ?_; intro w3 hX3 ho3; have hb3 := qh (ho3.below (xalloc (xrefl w1) _) (by rw [World.size_alloc]; omega) (by rintro j rfl; omega)); have hl3 := qh ((hb3.out.block kb (by omega)).trans hl1.out); have hd3 := qh ((hb3.out.block db (by omega)).trans hd1.out); have hR3 := qh (hR1.out.below hb3.out); have cl33 := cbel hb3.out cl3; have hb03 := qh (xtrans hb1.out hb3.out); clear hX3 ho3)
            | (refine wpList_putI rfl _ 3 142 .i64 _ _ _ rfl (by kernel_rfl) (by kernel_rfl) kb (k : Int) (stV zeroS) l rfl rfl rfl hl3.out ?_; intro w2 hl2 ho2; have hsz2 := ho2.size; have hO2 : Hid (Only (TwoK kb db) W w2) := qh ((Below.only hb03.out).trans (ho2.mono fun j _ e => .inl e)); have hK2 : Hid (KnAt w2 kb db ((k, none) :: σ)) := qh ⟨_, d, hl2, (ho2.same db (by have := hb03.out.size; omega) (fun e => hn3 e.symm)).trans hd3.out, hKL2.out⟩; have hR2 := qh (hR3.out.only ho2 (by omega)); clear hl2 ho2))
        have hs02 := hO2.out.size
        have hE2 := qh (hE.out.only hK0.out hO2.out)
        clear hl1 hd1 hKL hKL2 hl3 hd3 hR3 hb03 hb3 cl33 cl2 cl3 cl4 hR1 hE1 hs1 hb1 hO1
        obtain ⟨lB, hmB0, hfB0⟩ := hE2.out.blks.find k
        obtain ⟨B, hB, hBk⟩ := List.mem_map.1 hm.out
        rcases hfB0 with ⟨-, hno⟩ | ⟨j, hj, pB, qB, hjk, -, hfB1, hIB, -⟩
        · exact absurd (by rw [hBk]) (hno B hB)
        have hBj : bs[j] = B := by
          have h1 := hfi.out _ (List.getElem_mem hj)
          have h2 := hfi.out _ hB
          have e : bs[j].first = B.first := by rw [hBk]; omega
          rw [e] at h1
          rw [h1] at h2
          exact Option.some.inj h2
        have hbk : blkOf bs k = B := by unfold blkOf; rw [← hBk, hfi.out _ hB]; rfl
        rw [hBj] at hfB1 hIB
        have hmlt := hE.out.n2
        have hmB : Hid (∀ W', Only (TwoK kb db) w2 W' → W'.heap[mb]? = some (mapI .i64 lB)) := qh fun W' ho => (ho.same mb (Array.getElem?_eq_some_iff.1 hmB0).1 hmlt).trans hmB0
        have hfB : Hid ((findI k lB).getD (.agg #[.int .i64 0, .int .i64 0, .slice none 0 0, .bool false]) = blkV pB qB B) := qh (by rw [hfB1]; rfl)
        have hcB : Hid (∀ W', Only (TwoK kb db) w2 W' → W'.cell? ⟨lb, 1, none⟩ = some (.map (some mb))) := qh fun W' ho => by
          have := (hE2.out.look.only ho hn1.out).cell 1 (by simp [LookC])
          simpa [LookC] using this
        have hmemB : Hid (∀ x ∈ B.next, x ∈ bs.map (·.first)) := qh (by have := hnx.out k hm.out; rwa [hbk] at this)
        have halone0 : ∀ W', Only (TwoK kb db) w2 W' → Calls Tryz.prog 151 #[.pointer (some ⟨lb, 0, none⟩), blkV pB qB B] W' fun e w' => StR (aloneS cs B) e ∧ Below W'.heap.size W' w' := fun W' ho => by
          have hE3 := hE2.out.only hK2.out ho
          exact aloneB_any cs B lb a c mb en kb db pB qB W' hE3.code hE3.look
        have hside0 : ∀ W', Only (TwoK kb db) w2 W' → KnAt W' kb db ((k, none) :: σ) → Calls Tryz.prog 101 #[.pointer (some ⟨lb, 0, none⟩), .slice pB B.next.length qB] W' (FromR kb db (sidesG (fromF cs bs en f) ((k, none) :: σ) B.next) W') := fun W' ho hKn =>
          hsides.out _ B.next pB qB W' hI0.out (hE2.out.only hK2.out ho) hKn hmemB.out (hnl.out B hB) ⟨row_off hIB.row hK2.out ho, hIB.nil⟩ hu0.out
        have hOs : Hid (∀ j, TwoK kb db j → j < w2.heap.size) := qh fun j hj => by rcases hj with rfl | rfl <;> omega
        rw [hbk] at hRe
        skip
        cases ha : aloneS cs B with
        | none =>
          have hRn : R = none := by have := hRe.out; rw [ha] at this; exact this
          subst hRn
          rw [ha] at halone0
          unfold StR at halone0
          have halone := qh halone0
          clear halone0 hside0
          go_wp2_with (fail)
          refine' wp_region_growSL (goesO (TwoK kb db) (fun _ _ => True) (fun ch W' => ch = noneP ∧ Only (TwoK kb db) w2 W') 1000000 (fun _ _ _ _ _ => trivial)) 19 [fixdS _, fixdS _, fixdS _, fixdS _, fixdS _, fixdS _, fixdS (blkV pB qB B), neverT, fixdS _, fixdS _, fixdS _, fixdS _, fixdS _, fixdS _, fixdS (blkV pB qB B), fixdS (.slice pB B.next.length qB), fixdS undef, fixdS undef, anyTS] (by kernel_rfl) (by kernel_rfl) trivial (fun x ch W hd h => ?_) ?_
          rotate_left 13
          simp only [List.take_succ_cons, List.take_zero, List.drop_succ_cons, List.drop_zero]
          try simp only [Act.put, zA, zB, zC, zD, zE]
          refine' wpGrowS_fix _ rfl rfl rfl (fun b W hS hb _ => by go_simp; first | exact xrefl W | exact ⟨rfl, xrefl W⟩) ?_
          try simp only [Act.put, zA, zB, zC, zD, zE]
          refine' wpGrowS_fix _ rfl rfl rfl (fun b W hS hb _ => by go_simp; first | exact xrefl W | exact ⟨rfl, xrefl W⟩) ?_
          try simp only [Act.put, zA, zB, zC, zD, zE]
          refine' wpGrowS_fix _ rfl rfl rfl (fun b W hS hb _ => by go_simp; first | exact xrefl W | exact ⟨rfl, xrefl W⟩) ?_
          try simp only [Act.put, zA, zB, zC, zD, zE]
          refine' wpGrowS_fix _ rfl rfl rfl (fun b W hS hb _ => by go_simp; first | exact xrefl W | exact ⟨rfl, xrefl W⟩) ?_
          try simp only [Act.put, zA, zB, zC, zD, zE]
          refine' wpGrowS_fix _ rfl rfl rfl (fun b W hS hb _ => by have c := hcB.out W hb; go_simp; first | exact xrefl W | exact ⟨rfl, xrefl W⟩) ?_
          try simp only [Act.put, zA, zB, zC, zD, zE]
          refine' wpGrowS_fix _ rfl rfl rfl (fun b W hS hb _ => by go_simp; first | exact xrefl W | exact ⟨rfl, xrefl W⟩) ?_
          try simp only [Act.put, zA, zB, zC, zD, zE]
          refine wpGrowS_lookI rfl 87 3 51 .i64 _ _ rfl (by kernel_rfl) (by kernel_rfl) hzB k mb lB (blkV pB qB B) rfl rfl hmB.out hfB.out rfl rfl ?_
          try simp only [Act.put, zA, zB, zC, zD, zE]
          refine wpGrowS_any neverT rfl rfl (fun b W _ hS hb _ => ?_) (fun v hv => ?_)
          · go_simp
            go_at_call 151
            refine (halone.out W hb).mono ?_
            rintro e w' ⟨rfl, hb'⟩
            exact .inr ⟨_, rfl, rfl, Only.trans hb (Below.only hb')⟩
          have hv : v = undef := hv
          subst hv
          try simp only [Act.put, zA, zB, zC, zD, zE]
          refine' wpGrowS_fix _ rfl rfl rfl (fun b W hS hb _ => by go_simp; first | exact xrefl W | exact ⟨rfl, xrefl W⟩) ?_
          try simp only [Act.put, zA, zB, zC, zD, zE]
          refine' wpGrowS_fix _ rfl rfl rfl (fun b W hS hb _ => by go_simp; first | exact xrefl W | exact ⟨rfl, xrefl W⟩) ?_
          try simp only [Act.put, zA, zB, zC, zD, zE]
          refine' wpGrowS_fix _ rfl rfl rfl (fun b W hS hb _ => by go_simp; first | exact xrefl W | exact ⟨rfl, xrefl W⟩) ?_
          try simp only [Act.put, zA, zB, zC, zD, zE]
          refine' wpGrowS_fix _ rfl rfl rfl (fun b W hS hb _ => by go_simp; first | exact xrefl W | exact ⟨rfl, xrefl W⟩) ?_
          try simp only [Act.put, zA, zB, zC, zD, zE]
          refine' wpGrowS_fix _ rfl rfl rfl (fun b W hS hb _ => by have c := hcB.out W hb; go_simp; first | exact xrefl W | exact ⟨rfl, xrefl W⟩) ?_
          try simp only [Act.put, zA, zB, zC, zD, zE]
          refine' wpGrowS_fix _ rfl rfl rfl (fun b W hS hb _ => by go_simp; first | exact xrefl W | exact ⟨rfl, xrefl W⟩) ?_
          try simp only [Act.put, zA, zB, zC, zD, zE]
          refine wpGrowS_lookI rfl 87 3 51 .i64 _ _ rfl (by kernel_rfl) (by kernel_rfl) hzB k mb lB (blkV pB qB B) rfl rfl hmB.out hfB.out rfl rfl ?_
          try simp only [Act.put, zA, zB, zC, zD, zE]
          refine wpGrowS_fix (.slice pB B.next.length qB) rfl rfl rfl (fun b W hS hb _ => by go_simp; first | exact xrefl W | exact ⟨rfl, xrefl W⟩) ?_
          try simp only [Act.put, zA, zB, zC, zD, zE]
          refine wpGrowS_fix undef rfl rfl rfl (fun b W hS hb hF => ?_) ?_
          · exact (hF 7 (by kernel_rfl) (by simp)).elim
          try simp only [Act.put, zA, zB, zC, zD, zE]
          refine wpGrowS_fix undef rfl rfl rfl (fun b W hS hb hF => ?_) ?_
          · exact (hF 7 (by kernel_rfl) (by simp)).elim
          try simp only [Act.put, zA, zB, zC, zD, zE]
          refine wpGrowS_any anyTS rfl rfl (fun b W _ hS hb hF => ?_) (fun v hv => ?_)
          · go_simp
            exact ⟨⟨trivial, trivial⟩, Below.only (xalloc (xrefl W) _), trivial⟩
          try simp only [Act.put, zA, zB, zC, zD, zE]
          refine wpGrowS_nil fun W5 hb5 _ hmem => ?_
          exact (hmem 7 (by decide)).elim
          exact ⟨by simpa using hd, hO2.out.trans h.2, by rw [h.1]⟩
        | some sa =>
          rw [ha] at halone0
          unfold StR at halone0
          have halone := qh halone0
          clear halone0
          have hRe2 := hRe.out
          rw [ha] at hRe2
          dsimp only at hRe2
          cases hsd : sidesG (fromF cs bs en f) ((k, none) :: σ) B.next with
          | none =>
            rw [hsd] at hRe2 hside0
            have hRn : R = none := hRe2
            subst hRn
            unfold FromR at hside0
            have hside := qh hside0
            clear hside0
            go_wp2_with (fail)
            refine' wp_region_growSL (goesO (TwoK kb db) (fun b W => b = false → KnAt W kb db ((k, none) :: σ)) (fun ch W' => ch = noneP ∧ Only (TwoK kb db) w2 W') 16 (fun _ _ _ h hb e => (h e).below hb)) 19 [fixdS _, fixdS _, fixdS _, fixdS _, fixdS _, fixdS _, fixdS (blkV pB qB B), fixdS (stV sa), fixdS _, fixdS _, fixdS _, fixdS _, fixdS _, fixdS _, fixdS (blkV pB qB B), fixdS (.slice pB B.next.length qB), neverT, fixdS undef, anyTS] (by kernel_rfl) (by kernel_rfl) (fun _ => hK2.out) (fun x ch W hd h => ?_) ?_
            rotate_left 13
            simp only [List.take_succ_cons, List.take_zero, List.drop_succ_cons, List.drop_zero]
            try simp only [Act.put, zA, zB, zC, zD, zE]
            refine' wpGrowS_fix _ rfl rfl rfl (fun b W hS hb _ => by go_simp; first | exact xrefl W | exact ⟨rfl, xrefl W⟩) ?_
            try simp only [Act.put, zA, zB, zC, zD, zE]
            refine' wpGrowS_fix _ rfl rfl rfl (fun b W hS hb _ => by go_simp; first | exact xrefl W | exact ⟨rfl, xrefl W⟩) ?_
            try simp only [Act.put, zA, zB, zC, zD, zE]
            refine' wpGrowS_fix _ rfl rfl rfl (fun b W hS hb _ => by go_simp; first | exact xrefl W | exact ⟨rfl, xrefl W⟩) ?_
            try simp only [Act.put, zA, zB, zC, zD, zE]
            refine' wpGrowS_fix _ rfl rfl rfl (fun b W hS hb _ => by go_simp; first | exact xrefl W | exact ⟨rfl, xrefl W⟩) ?_
            try simp only [Act.put, zA, zB, zC, zD, zE]
            refine' wpGrowS_fix _ rfl rfl rfl (fun b W hS hb _ => by have c := hcB.out W hb; go_simp; first | exact xrefl W | exact ⟨rfl, xrefl W⟩) ?_
            try simp only [Act.put, zA, zB, zC, zD, zE]
            refine' wpGrowS_fix _ rfl rfl rfl (fun b W hS hb _ => by go_simp; first | exact xrefl W | exact ⟨rfl, xrefl W⟩) ?_
            try simp only [Act.put, zA, zB, zC, zD, zE]
            refine wpGrowS_lookI rfl 87 3 51 .i64 _ _ rfl (by kernel_rfl) (by kernel_rfl) hzB k mb lB (blkV pB qB B) rfl rfl hmB.out hfB.out rfl rfl ?_
            try simp only [Act.put, zA, zB, zC, zD, zE]
            refine wpGrowS_fix (stV sa) rfl rfl rfl (fun b W hS hb _ => ?_) ?_
            · go_simp
              go_at_call 151
              refine (halone.out W hb).mono ?_
              rintro e w' ⟨rfl, hb'⟩
              exact ⟨rfl, hb'⟩
            try simp only [Act.put, zA, zB, zC, zD, zE]
            refine' wpGrowS_fix _ rfl rfl rfl (fun b W hS hb _ => by go_simp; first | exact xrefl W | exact ⟨rfl, xrefl W⟩) ?_
            try simp only [Act.put, zA, zB, zC, zD, zE]
            refine' wpGrowS_fix _ rfl rfl rfl (fun b W hS hb _ => by go_simp; first | exact xrefl W | exact ⟨rfl, xrefl W⟩) ?_
            try simp only [Act.put, zA, zB, zC, zD, zE]
            refine' wpGrowS_fix _ rfl rfl rfl (fun b W hS hb _ => by go_simp; first | exact xrefl W | exact ⟨rfl, xrefl W⟩) ?_
            try simp only [Act.put, zA, zB, zC, zD, zE]
            refine' wpGrowS_fix _ rfl rfl rfl (fun b W hS hb _ => by go_simp; first | exact xrefl W | exact ⟨rfl, xrefl W⟩) ?_
            try simp only [Act.put, zA, zB, zC, zD, zE]
            refine' wpGrowS_fix _ rfl rfl rfl (fun b W hS hb _ => by have c := hcB.out W hb; go_simp; first | exact xrefl W | exact ⟨rfl, xrefl W⟩) ?_
            try simp only [Act.put, zA, zB, zC, zD, zE]
            refine' wpGrowS_fix _ rfl rfl rfl (fun b W hS hb _ => by go_simp; first | exact xrefl W | exact ⟨rfl, xrefl W⟩) ?_
            try simp only [Act.put, zA, zB, zC, zD, zE]
            refine wpGrowS_lookI rfl 87 3 51 .i64 _ _ rfl (by kernel_rfl) (by kernel_rfl) hzB k mb lB (blkV pB qB B) rfl rfl hmB.out hfB.out rfl rfl ?_
            try simp only [Act.put, zA, zB, zC, zD, zE]
            refine wpGrowS_fix (.slice pB B.next.length qB) rfl rfl rfl (fun b W hS hb _ => by go_simp; first | exact xrefl W | exact ⟨rfl, xrefl W⟩) ?_
            try simp only [Act.put, zA, zB, zC, zD, zE]
            refine wpGrowS_any neverT rfl rfl (fun b W hbk hS hb _ => ?_) (fun v hv => ?_)
            · obtain rfl := hbk rfl
              go_simp
              go_at_call 101
              refine (hside.out W hb (hS rfl)).mono ?_
              rintro e w' ⟨ho', rfl, -⟩
              exact .inr ⟨_, rfl, rfl, Only.trans hb ho'⟩
            have hv : v = undef := hv
            subst hv
            try simp only [Act.put, zA, zB, zC, zD, zE]
            refine wpGrowS_fix undef rfl rfl rfl (fun b W hS hb hF => ?_) ?_
            · exact (hF 16 (by kernel_rfl) (by simp)).elim
            try simp only [Act.put, zA, zB, zC, zD, zE]
            refine wpGrowS_any anyTS rfl rfl (fun b W _ hS hb hF => ?_) (fun v hv => ?_)
            · go_simp
              exact ⟨⟨trivial, trivial⟩, Below.only (xalloc (xrefl W) _), fun e => (hS e).below (xalloc (xrefl W) _)⟩
            try simp only [Act.put, zA, zB, zC, zD, zE]
            refine wpGrowS_nil fun W5 hb5 _ hmem => ?_
            exact (hmem 16 (by decide)).elim
            exact ⟨by simpa using hd, hO2.out.trans h.2, by rw [h.1]⟩
          | some xr =>
            obtain ⟨sr, σ2⟩ := xr
            rw [hsd] at hRe2 hside0
            have hRn : R = some (thenS sa sr, (k, some (thenS sa sr)) :: σ2) := hRe2
            subst hRn
            unfold FromR at hside0
            have hside := qh hside0
            have hsd0 := hsd
            unfold sidesG at hsd0
            cases hmg : manyG (fromF cs bs en f) ((k, none) :: σ) B.next with
            | none => rw [hmg] at hsd0; cases hsd0
            | some y =>
            obtain ⟨lm, σ3⟩ := y
            rw [hmg] at hsd0
            dsimp only at hsd0
            cases hfo : foldO lm with
            | none => rw [hfo] at hsd0; cases hsd0
            | some r =>
            rw [hfo] at hsd0
            cases hsd0
            obtain ⟨j1, j2, j3, j4⟩ := many_sound hsound.out _ _ lm σ2 hI0.out hmemB.out hmg
            have hk1 : lookK σ2 k = some none := j2.1 k (by rw [lookK_cons, if_pos rfl])
            have hdn := j1.dn
            have hsr : SmS 1000000000000000 sr := sm_up (sm_foldO (A := 6400000 * (dnK σ2 : Int)) (fun x hx => by
              obtain ⟨i, hi, rfl⟩ := List.getElem_of_mem hx
              exact sm_wt hok hlc (j4 i (by omega) hi)) hfo) (by omega)
            have hsa : SmS 1000000000000000 sa := sm_up (sm_alone hok hlc ha) (by omega)
            have hth := qh fun W => then_any sa sr W hsa hsr
            clear hside0 hsd hmg hfo j1 j2 j3 j4 hsr hsa hdn ha hRe hRe2
            replace hk1 := qh hk1
            go_wp2_with (fail)
            refine' wp_region_growSL (goesO (TwoK kb db) (fun b W => KnAt W kb db (cond b σ2 ((k, none) :: σ))) (fun _ _ => False) 16 (fun _ _ _ h hb => h.below hb)) 19 [fixdS _, fixdS _, fixdS _, fixdS _, fixdS _, fixdS _, fixdS (blkV pB qB B), fixdS (stV sa), fixdS _, fixdS _, fixdS _, fixdS _, fixdS _, fixdS _, fixdS (blkV pB qB B), fixdS (.slice pB B.next.length qB), fixdS (stV sr), fixdS (stV (thenS sa sr)), newTS w2.heap.size hOs.out 142 (stC zeroS)] (by kernel_rfl) (by kernel_rfl) hK2.out (fun x ch W hd h => h.elim) ?_
            rotate_left 12
            simp only [List.take_succ_cons, List.take_zero, List.drop_succ_cons, List.drop_zero]
            try simp only [Act.put, zA, zB, zC, zD, zE]
            refine' wpGrowS_fix _ rfl rfl rfl (fun b W hS hb _ => by go_simp; first | exact xrefl W | exact ⟨rfl, xrefl W⟩) ?_
            try simp only [Act.put, zA, zB, zC, zD, zE]
            refine' wpGrowS_fix _ rfl rfl rfl (fun b W hS hb _ => by go_simp; first | exact xrefl W | exact ⟨rfl, xrefl W⟩) ?_
            try simp only [Act.put, zA, zB, zC, zD, zE]
            refine' wpGrowS_fix _ rfl rfl rfl (fun b W hS hb _ => by go_simp; first | exact xrefl W | exact ⟨rfl, xrefl W⟩) ?_
            try simp only [Act.put, zA, zB, zC, zD, zE]
            refine' wpGrowS_fix _ rfl rfl rfl (fun b W hS hb _ => by go_simp; first | exact xrefl W | exact ⟨rfl, xrefl W⟩) ?_
            try simp only [Act.put, zA, zB, zC, zD, zE]
            refine' wpGrowS_fix _ rfl rfl rfl (fun b W hS hb _ => by have c := hcB.out W hb; go_simp; first | exact xrefl W | exact ⟨rfl, xrefl W⟩) ?_
            try simp only [Act.put, zA, zB, zC, zD, zE]
            refine' wpGrowS_fix _ rfl rfl rfl (fun b W hS hb _ => by go_simp; first | exact xrefl W | exact ⟨rfl, xrefl W⟩) ?_
            try simp only [Act.put, zA, zB, zC, zD, zE]
            refine wpGrowS_lookI rfl 87 3 51 .i64 _ _ rfl (by kernel_rfl) (by kernel_rfl) hzB k mb lB (blkV pB qB B) rfl rfl hmB.out hfB.out rfl rfl ?_
            try simp only [Act.put, zA, zB, zC, zD, zE]
            refine wpGrowS_fix (stV sa) rfl rfl rfl (fun b W hS hb _ => ?_) ?_
            · go_simp
              go_at_call 151
              refine (halone.out W hb).mono ?_
              rintro e w' ⟨rfl, hb'⟩
              exact ⟨rfl, hb'⟩
            try simp only [Act.put, zA, zB, zC, zD, zE]
            refine' wpGrowS_fix _ rfl rfl rfl (fun b W hS hb _ => by go_simp; first | exact xrefl W | exact ⟨rfl, xrefl W⟩) ?_
            try simp only [Act.put, zA, zB, zC, zD, zE]
            refine' wpGrowS_fix _ rfl rfl rfl (fun b W hS hb _ => by go_simp; first | exact xrefl W | exact ⟨rfl, xrefl W⟩) ?_
            try simp only [Act.put, zA, zB, zC, zD, zE]
            refine' wpGrowS_fix _ rfl rfl rfl (fun b W hS hb _ => by go_simp; first | exact xrefl W | exact ⟨rfl, xrefl W⟩) ?_
            try simp only [Act.put, zA, zB, zC, zD, zE]
            refine' wpGrowS_fix _ rfl rfl rfl (fun b W hS hb _ => by go_simp; first | exact xrefl W | exact ⟨rfl, xrefl W⟩) ?_
            try simp only [Act.put, zA, zB, zC, zD, zE]
            refine' wpGrowS_fix _ rfl rfl rfl (fun b W hS hb _ => by have c := hcB.out W hb; go_simp; first | exact xrefl W | exact ⟨rfl, xrefl W⟩) ?_
            try simp only [Act.put, zA, zB, zC, zD, zE]
            refine' wpGrowS_fix _ rfl rfl rfl (fun b W hS hb _ => by go_simp; first | exact xrefl W | exact ⟨rfl, xrefl W⟩) ?_
            try simp only [Act.put, zA, zB, zC, zD, zE]
            refine wpGrowS_lookI rfl 87 3 51 .i64 _ _ rfl (by kernel_rfl) (by kernel_rfl) hzB k mb lB (blkV pB qB B) rfl rfl hmB.out hfB.out rfl rfl ?_
            try simp only [Act.put, zA, zB, zC, zD, zE]
            refine wpGrowS_fix (.slice pB B.next.length qB) rfl rfl rfl (fun b W hS hb _ => by go_simp; first | exact xrefl W | exact ⟨rfl, xrefl W⟩) ?_
            try simp only [Act.put, zA, zB, zC, zD, zE]
            refine wpGrowS_any (fixdS (stV sr)) rfl rfl (fun b W hbk hS hb _ => ?_) (fun v hv => ?_)
            · obtain rfl := hbk rfl
              go_simp
              go_at_call 101
              refine (hside.out W hb hS).mono ?_
              rintro e w' ⟨ho', rfl, hK'⟩
              exact .inl ⟨_, rfl, ⟨rfl, trivial⟩, ho', hK'⟩
            have hv : v = stV sr := hv
            subst hv
            try simp only [Act.put, zA, zB, zC, zD, zE]
            refine wpGrowS_fix (stV (thenS sa sr)) rfl rfl rfl (fun b W hS hb _ => ?_) ?_
            · go_simp
              go_at_call 152
              refine (hth.out W).mono ?_
              rintro e w' ⟨rfl, hb'⟩
              exact ⟨rfl, hb'⟩
            try simp only [Act.put, zA, zB, zC, zD, zE]
            refine wpGrowS_any (newTS w2.heap.size hOs.out 142 (stC zeroS)) rfl rfl (fun b W _ hS hb hF => ?_) (fun v hv => ?_)
            · go_simp
              exact ⟨⟨⟨_, rfl⟩, fun b e => by cases e; exact ⟨BlkG.new W _ _, hb.size⟩⟩, Below.only (xalloc (xrefl W) _), hS.below (xalloc (xrefl W) _)⟩
            obtain ⟨b7, rfl⟩ := hv
            try simp only [Act.put, zA, zB, zC, zD, zE]
            refine wpGrowS_nil fun W5 hb5 hS5 hmem => ?_
            have hB70 := hmem 18 (by decide) b7 rfl
            have hKn5 : KnAt W5 kb db σ2 := hS5
            have hb5' : Only (TwoK kb db) w2 W5 := hb5
            have hs5 := hb5'.size
            obtain ⟨hB71, hB72⟩ := hB70
            have hb7n : Hid (¬ TwoK kb db b7) := qh fun e => by have := hOs.out b7 e; omega
            have hR5 := qh (hR2.out.only hb5' (fun e => by rcases e with e | e <;> omega))
            have hO5 := qh (hO2.out.trans hb5')
            have hE5 := hE2.out.only hK2.out hb5'
            have cl35 := hE5.look.cell 3 (by simp [LookC])
            have cl45 := hE5.look.cell 4 (by simp [LookC])
            simp only [LookC, List.getElem_cons_succ, List.getElem_cons_zero] at cl35 cl45
            replace hB71 := qh hB71
            obtain ⟨l2, d2, hkb5, hdb5, hKL5⟩ := hKn5
            obtain ⟨hKL6, hkl, hkd⟩ := hKL5.close (s := thenS sa sr) hk1.out
            have hnd := hKL5.nd
            have hlook5 := qh hE5.look
            clear hmem hS5 hb5 hE5 hth hside halone
            go_wp2_with (refine wpList_store_blkG rfl 142 _ _ rfl b7 rfl 142 (stC zeroS) (stC (thenS sa sr)) hB71.out rfl rfl (by kernel_rfl) rfl ?_; intro w6 hB7 ho6; replace hB7 := qh hB7)
            have hs6 := ho6.size
            have hb7k := fun e : b7 = kb => hb7n.out (.inl e)
            have hb7d := fun e : b7 = db => hb7n.out (.inr e)
            have hkb2 : Hid (w6.heap[kb]? = some (mapI .i64 l2)) := qh ((ho6.same kb (by omega) (fun e => hb7k e.symm)).trans hkb5)
            have hdb2 : Hid (w6.heap[db]? = some (mapI .i64 d2)) := qh ((ho6.same db (by omega) (fun e => hb7d e.symm)).trans hdb5)
            have hRlt := hR2.out.lt
            have hR6 := qh (hR5.out.only ho6 (fun e => by omega))
            have hO6 : Hid (Only (TwoK kb db) W w6) := qh (only_newR hO5.out ho6 (fun j e => by rw [e]; exact Nat.le_trans hs02 hB72))
            have hs027 : W.heap.size ≤ b7 := Nat.le_trans hs02 hB72
            have hlb6 : lb ≠ b7 := by have := hlbW.out; omega
            have hlook6 := qh (hlook5.out.only ho6 hlb6)
            have hc3 : Hid (∀ W', Only (TwoK kb db) w6 W' → W'.cell? ⟨lb, 3, none⟩ = some (.map (some kb))) := qh fun W' ho => by
              have := (hlook6.out.only ho hn1.out).cell 3 (by simp [LookC])
              simpa [LookC] using this
            have hc4 : Hid (∀ W', Only (TwoK kb db) w6 W' → W'.cell? ⟨lb, 4, none⟩ = some (.map (some db))) := qh fun W' ho => by
              have := (hlook6.out.only ho hn1.out).cell 4 (by simp [LookC])
              simpa [LookC] using this
            have hmt := Tryz.underlying139
            have hit := Tryz.underlying3
            obtain ⟨d9, u9, ⟨hd9, -⟩, hsto0⟩ := run_entryI_old hmt hit k w6 kb l2 hkb2.out hkl
            have hent : Hid (∀ c W', W'.heap[kb]? = some (mapI .i64 (cond c (updI k (stV (thenS sa sr)) l2) l2)) → ∃ u, (Instr.mapEntry 139 (.map (some kb)) (.int .i64 k)).run Tryz.prog W' = .ok u W' ∧ ∃ u', u = .tuple #[u', .int .i64 (d9 : Nat)]) := qh fun c W' hW' => by
              cases c with
              | false =>
                obtain ⟨d', u', ⟨h1, h2⟩, -⟩ := run_entryI_old hmt hit k W' kb l2 hW' hkl
                have := nodup_idx hnd h1 hd9
                subst this
                exact ⟨_, h2, u', rfl⟩
              | true =>
                obtain ⟨d', u', ⟨h1, h2⟩, -⟩ := run_entryI_old hmt hit k W' kb (updI k (stV (thenS sa sr)) l2) hW' (by rw [updI_keys hkl]; exact hkl)
                rw [updI_keys hkl] at h1
                have := nodup_idx hnd h1 hd9
                subst this
                exact ⟨_, h2, u', rfl⟩
            have hsto : Hid (∀ W', W'.heap[kb]? = some (mapI .i64 l2) → W'.heap[db]? = some (mapI .i64 d2) → ∃ W'', (Instr.entryStore 139 (.map (some kb)) (.int .i64 (d9 : Nat)) (stV (thenS sa sr))).run Tryz.prog W' = .ok () W'' ∧ Only (TwoK kb db) W' W'' ∧ W''.heap[kb]? = some (mapI .i64 (updI k (stV (thenS sa sr)) l2)) ∧ W''.heap[db]? = some (mapI .i64 d2)) := qh fun W' h1 h2 => by
              have hlt := (Array.getElem?_eq_some_iff.1 h1).1
              have hon : Only (· = kb) W' (W'.putObj kb (mapI .i64 (updI k (stV (thenS sa sr)) l2))) := (Only.refl _ _).putObj kb _ rfl
              exact ⟨_, hsto0 _ W' h1, hon.mono fun j _ e => .inl e, World.putObj_heap_same hlt, (hon.same db (Array.getElem?_eq_some_iff.1 h2).1 (fun e => hn3 e.symm)).trans h2⟩
            clear hsto0 hlook6 hlook5 hd9 cl35 cl45 hkb5 hdb5 hnd hkl ho6 hKL5
            replace hKL6 := qh hKL6
            replace hkd := qh hkd
            go_wp2_with (fail)
            refine' wp_region_growSL (goesO (TwoK kb db) (fun b W => W.heap[kb]? = some (mapI .i64 (cond b (updI k (stV (thenS sa sr)) l2) l2)) ∧ W.heap[db]? = some (mapI .i64 d2)) (fun _ _ => False) 13 (fun _ _ _ h hb => ⟨(hb.block kb (Array.getElem?_eq_some_iff.1 h.1).1).trans h.1, (hb.block db (Array.getElem?_eq_some_iff.1 h.2).1).trans h.2⟩)) 14 [fixdS _, fixdS _, fixdS _, fixdS _, fixdS _, fixdS _, fixdS _, fixdS _, fixdS _, fixdS _, fixdS (stV (thenS sa sr)), entT d9, fixdS _, fixdS undef] (by kernel_rfl) (by kernel_rfl) ⟨hkb2.out, hdb2.out⟩ (fun x ch W hd h => h.elim) ?_
            rotate_left 11
            simp only [List.take_succ_cons, List.take_zero, List.drop_succ_cons, List.drop_zero]
            try simp only [Act.put, zA, zB, zC, zD, zE]
            refine' wpGrowS_fix _ rfl rfl rfl (fun b W hS hb _ => by go_simp; first | exact xrefl W | exact ⟨rfl, xrefl W⟩) ?_
            try simp only [Act.put, zA, zB, zC, zD, zE]
            refine' wpGrowS_fix _ rfl rfl rfl (fun b W hS hb _ => by go_simp; first | exact xrefl W | exact ⟨rfl, xrefl W⟩) ?_
            try simp only [Act.put, zA, zB, zC, zD, zE]
            refine' wpGrowS_fix _ rfl rfl rfl (fun b W hS hb _ => by go_simp; first | exact xrefl W | exact ⟨rfl, xrefl W⟩) ?_
            try simp only [Act.put, zA, zB, zC, zD, zE]
            refine' wpGrowS_fix _ rfl rfl rfl (fun b W hS hb _ => by have c := hc3.out W hb; go_simp; first | exact xrefl W | exact ⟨rfl, xrefl W⟩) ?_
            try simp only [Act.put, zA, zB, zC, zD, zE]
            refine' wpGrowS_fix _ rfl rfl rfl (fun b W hS hb _ => by go_simp; first | exact xrefl W | exact ⟨rfl, xrefl W⟩) ?_
            try simp only [Act.put, zA, zB, zC, zD, zE]
            refine' wpGrowS_fix _ rfl rfl rfl (fun b W hS hb _ => by go_simp; first | exact xrefl W | exact ⟨rfl, xrefl W⟩) ?_
            try simp only [Act.put, zA, zB, zC, zD, zE]
            refine' wpGrowS_fix _ rfl rfl rfl (fun b W hS hb _ => by go_simp; first | exact xrefl W | exact ⟨rfl, xrefl W⟩) ?_
            try simp only [Act.put, zA, zB, zC, zD, zE]
            refine' wpGrowS_fix _ rfl rfl rfl (fun b W hS hb _ => by go_simp; first | exact xrefl W | exact ⟨rfl, xrefl W⟩) ?_
            try simp only [Act.put, zA, zB, zC, zD, zE]
            refine' wpGrowS_fix _ rfl rfl rfl (fun b W hS hb _ => by have c := hc4.out W hb; go_simp; first | exact xrefl W | exact ⟨rfl, xrefl W⟩) ?_
            try simp only [Act.put, zA, zB, zC, zD, zE]
            refine' wpGrowS_fix _ rfl rfl rfl (fun b W hS hb _ => by go_simp; first | exact xrefl W | exact ⟨rfl, xrefl W⟩) ?_
            try simp only [Act.put, zA, zB, zC, zD, zE]
            refine wpGrowS_load_part rfl 142 _ rfl b7 0 rfl (stC (thenS sa sr)) _ (fun W hb => blk_range (hB7.out.only hb hb7n.out)) hst rfl (by kernel_rfl) rfl rfl ?_
            try simp only [Act.put, zA, zB, zC, zD, zE]
            refine wpGrowS_entryI (entT d9) rfl rfl 139 _ _ rfl kb .i64 k rfl rfl rfl (fun c W hS hb => by obtain ⟨u, h1, h2⟩ := hent.out c W hS.1; exact ⟨u, h1, h2, trivial⟩) (fun v hv => ?_)
            obtain ⟨u9, rfl⟩ := hv
            try simp only [Act.put, zA, zB, zC, zD, zE]
            refine' wpGrowS_fix _ rfl rfl rfl (fun b W hS hb _ => by go_simp; first | exact xrefl W | exact ⟨rfl, xrefl W⟩) ?_
            try simp only [Act.put, zA, zB, zC, zD, zE]
            refine wpGrowS_entryStore rfl rfl 139 _ _ _ rfl (.map (some kb)) (.int .i64 (d9 : Nat)) (stV (thenS sa sr)) rfl rfl rfl rfl (fun W hS hb => hsto.out W hS.1 hS.2) ?_
            try simp only [Act.put, zA, zB, zC, zD, zE]
            refine wpGrowS_nil fun W7 hb7 hS7 _ => ?_
            have hk7 : W7.heap[kb]? = some (mapI .i64 (updI k (stV (thenS sa sr)) l2)) := hS7.1
            have hd7 : W7.heap[db]? = some (mapI .i64 d2) := hS7.2
            have hb7' : Only (TwoK kb db) w6 W7 := hb7
            have hR7 := qh (hR6.out.only hb7' (fun e => by rcases e with e | e <;> omega))
            have hX7 := qh (hB7.out.only hb7' hb7n.out)
            have hO7 := qh (hO6.out.trans hb7')
            have hsz7 := hb7'.size
            clear hS7 hb7
            replace hk7 := qh hk7
            replace hd7 := qh hd7
            go_wp2_with (first
              | (refine wpList_entryI_new rfl 95 3 4 .i64 _ _ rfl (by kernel_rfl) (by kernel_rfl) hzb k db d2 rfl rfl hd7.out hkd.out ?_; intro w8 hd8 ho8; replace hd8 := qh hd8)
              | (refine wpList_entryStore_last rfl 95 .i64 _ _ _ rfl db d2 k (.bool false) (.bool true) rfl rfl rfl hd8.out ?_; intro w9 hd9 ho9; have ho79 := ho8.trans ho9; have hR9 := qh (hR7.out.only ho79 (by omega)); have hX9 := qh (hX7.out.only ho79 hb7d); have hk9 := qh ((ho79.same kb (Array.getElem?_eq_some_iff.1 hk7.out).1 hn3).trans hk7.out); have hO9 : Hid (Only (TwoK kb db) W w9) := qh (hO7.out.trans (ho79.mono fun j _ e => .inr e)); replace hd9 := qh hd9; clear ho79 ho8 ho9)
              | (refine wpList_load_blkG rfl 142 _ rfl b7 rfl 142 (stC (thenS sa sr)) _ hX9.out hst rfl (by kernel_rfl) ?_)
              | (refine wpList_store_blkG rfl 142 _ _ rfl W.heap.size rfl 142 (stC zeroS) (stC (thenS sa sr)) hR9.out rfl rfl (by kernel_rfl) rfl ?_; intro w10 hA10 ho10; have hk10 := (ho10.same kb (Array.getElem?_eq_some_iff.1 hk9.out).1 (by omega)).trans hk9.out; have hd10 := (ho10.same db (Array.getElem?_eq_some_iff.1 hd9.out).1 (by omega)).trans hd9.out; have hO10 : Hid (Only (TwoK kb db) W w10) := qh (only_newR hO9.out ho10 (fun j e => by omega)); have hK10 : Hid (KnAt w10 kb db ((k, some (thenS sa sr)) :: σ2)) := qh ⟨_, _, hk10, hd10, hKL6.out⟩; replace hA10 := qh hA10; clear ho10 hk10 hd10))
            exact bodyPost_ret (results_blkG rfl _ _ W.heap.size 142 _ _ rfl hA10.out hst rfl (by kernel_rfl)) rfl ⟨hO10.out, rfl, hK10.out⟩
end
end Go.Proofs.YtijkdabmegbcjaaGreatDoor
