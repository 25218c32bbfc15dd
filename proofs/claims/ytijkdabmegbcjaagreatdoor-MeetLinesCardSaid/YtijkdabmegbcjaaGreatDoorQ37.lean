/- Texts of this claim, merged; no condition. -/
import Derived.Test.YtijkdabmegbcjaaGreatDoorQ36
set_option linter.all false
namespace Go.Proofs.YtijkdabmegbcjaaGreatDoor
open Go.RowKit Go.Shelf

set_option maxRecDepth 100000 in
theorem BehG.ownW {lo : Nat} {w : World} {gb : Nat} {bs : List BlkN} {hb : Nat} {F : Nat → Option (List Nat)} {D : Nat} (g : Graph bs D) (h : BehG lo w gb bs hb F) (n : Int) : ∃ v K, (∀ W, Below w.heap.size w W → (Instr.lookup 97 (.map (some hb)) (.int .i64 n) false).run Tryz.prog W = .ok (.map v) W) ∧ SetN w v K ∧ K.length = (behindZ bs D n).length := by
  have hzm : ∀ w, (zeroValue 95).run Tryz.prog w = .ok (.map none) w := fun _ => rfl
  by_cases h0 : n < 0
  · exact ⟨none, [], fun W hW => (h.beh.below hW).lookN Tryz.underlying97 Tryz.underlying3 hzm n h0, .inl ⟨rfl, rfl⟩, by rw [behindZ_neg h0]⟩
  · obtain ⟨k, rfl⟩ := Int.eq_ofNat_of_zero_le (Int.not_lt.1 h0)
    have hz : behindZ bs D (k : Int) = behindN bs D k := behindZ_nat bs D k
    cases e : F k with
    | none => exact ⟨none, [], fun W hW => (h.beh.below hW).look0 Tryz.underlying97 Tryz.underlying3 hzm k e, .inl ⟨rfl, rfl⟩, by rw [hz, h.no g e]⟩
    | some K =>
      obtain ⟨E, clk, h1, h2, hp, h3⟩ := h.beh
      obtain ⟨b, e1, -, -, e4⟩ := (h3 k).2 K e
      exact ⟨some b, K, fun W hW => by rw [run_lookQ Tryz.underlying97 Tryz.underlying3 hzm _ _ ((hW.block hb h.beh.lt).trans h1), if_neg (by decide), e1]; rfl, .inr ⟨b, rfl, e4⟩, by rw [hz]; exact h.len g e⟩
def isT : Value → Bool
  | .bool b => b
  | _ => false
theorem exits_len {bs : List BlkN} {D : Nat} (g : Graph bs D) (n : Int) {m : Nat} (hm : m = (behindZ bs D n).length) : decide (0 < m) = exitsZ bs D n (-1) := by
  rw [hm]
  by_cases h0 : n < 0
  · rw [behindZ_neg h0, exitsZ_neg h0]; rfl
  · obtain ⟨k, rfl⟩ := Int.eq_ofNat_of_zero_le (Int.not_lt.1 h0)
    have hz : behindZ bs D (k : Int) = behindN bs D k := behindZ_nat _ _ k
    have hz2 : exitsZ bs D (k : Int) (-1) = exitsN bs D k (-1) := exitsZ_nat _ _ k _
    rw [hz, hz2, Bool.eq_iff_iff, decide_eq_true_eq, ← behind_ne g]
    have := List.length_pos_iff (l := behindN bs D k)
    rw [← this]
/-- What is left of a line. -/
structure LinI (bs : List BlkN) (D : Nat) (R : List Nat) (k : Nat) (pre : List Nat) : Prop where
  ex : exitsN bs D k (-1) = true
  eq : R = pre ++ lineF bs D (behindN bs D k).length k
theorem LinI.now {bs : List BlkN} {D : Nat} (g : Graph bs D) {R : List Nat} {k : Nat} {pre : List Nat} (h : LinI bs D R k pre) :
    pre.length < R.length ∧ pre ++ [k] = R.take (pre.length + 1) ∧ (meetN bs D k = none → R = pre ++ [k]) ∧ ∀ m, meetN bs D k = some m → LinI bs D R m (pre ++ [k]) ∧ (behindN bs D m).length + 1 = (behindN bs D k).length := by
  obtain ⟨f, hf⟩ : ∃ f, (behindN bs D k).length = f + 1 := ⟨(behindN bs D k).length - 1, by have := behind_pos g h.ex; omega⟩
  have he := h.eq
  rw [hf] at he
  have hLF : lineF bs D (f + 1) k = match meetN bs D k with | some m => k :: lineF bs D f m | none => [k] := rfl
  have hcons : ∃ r, R = pre ++ k :: r := by
    rw [he, hLF]
    cases meetN bs D k with
    | none => exact ⟨[], rfl⟩
    | some m => exact ⟨_, rfl⟩
  obtain ⟨r, hr⟩ := hcons
  refine ⟨by rw [hr]; simp, ?_, fun h0 => ?_, fun m hm => ?_⟩
  · rw [hr, List.take_append, List.take_of_length_le (Nat.le_succ _)]; simp
  · rw [he, hLF, h0]
  · have h2 := (meet_iff g).1 hm
    have hbm := (mem_behind g).1 h2.1
    refine ⟨⟨(exits_ends g).2 hbm.ends, ?_⟩, h2.2.2⟩
    rw [he, hLF, hm]
    have : (behindN bs D m).length = f := by have := h2.2.2; omega
    rw [this, List.append_assoc]; rfl
set_option maxRecDepth 100000 in
set_option maxHeartbeats 4000000 in
theorem steps_seq (bs : List BlkN) (D : Nat) (g : Graph bs D) (hl : bs.length ≤ 200) (n : Int) (b1 b2 gb lo : Nat) (W0 W : World) (h : MeetAt lo W0 gb bs) (ho : Old lo W0 W) (hsz0 : W0.heap.size ≤ W.heap.size) (hc1 : W.cell? ⟨b1, 0, none⟩ = some (.pointer (some ⟨gb, 0, none⟩))) (hc2 : W.cell? ⟨b2, 0, none⟩ = some (.int .i64 n)) :
    SeqP Tryz.prog 95 #[.pointer (some ⟨b1, 0, none⟩), .pointer (some ⟨b2, 0, none⟩)] (fun x : Nat => #[.int .i64 x]) (fun k => WkRd lo W0 k ∨ k = b1) (fun xs => xs = lineZ bs D n) (fun pre => ∃ k, k ≤ (lineZ bs D n).length ∧ pre = (lineZ bs D n).take k) (lineZ bs D n).length false W := by
  intro l0 J Jx hJ hJx hY h0 _
  have hR0 : Hid ((exitsZ bs D n (-1) = true → ∃ k : Nat, n = k ∧ LinI bs D (lineZ bs D n) k []) ∧ (exitsZ bs D n (-1) = false → lineZ bs D n = [])) := Lib.hid ⟨fun hX => by
    obtain ⟨k, rfl⟩ : ∃ k : Nat, n = k := by
      by_cases h0 : n < 0
      · rw [exitsZ_neg h0] at hX; cases hX
      · exact ⟨n.toNat, by omega⟩
    refine ⟨k, rfl, ?_, ?_⟩
    · rw [← exitsZ_nat]; exact hX
    · rw [lineZ_nat]
      unfold lineN
      rw [exitsZ_nat] at hX
      rw [hX]; rfl, lineZ_none⟩
  obtain ⟨R, hRe⟩ : ∃ R, lineZ bs D n = R := ⟨_, rfl⟩
  rw [hRe] at hY hR0 ⊢
  clear hRe
  have hold := Lib.hid ho
  have hme := h.old ho
  obtain ⟨bh, F, hG⟩ := id hme
  have hcg := hG.c1
  obtain ⟨v, K, hlk, hSN, hlen⟩ := hG.ownW g n
  have hx := exits_len g n hlen
  replace hx := Lib.hid hx
  replace hSN := Lib.hid hSN
  have h' := Lib.hid h
  clear hme hG hlen h ho
  replace hJ := Lib.hid hJ
  replace hJx := Lib.hid hJx
  replace hY := Lib.hid hY
  replace h0 := Lib.hid h0
  refine callsIn_of_wp Tryz.func95 rfl trivial ?_ rfl
  simp only [Tryz.ntmps95, List.size_toArray, List.length_cons, List.length_nil, Nat.reduceAdd, Nat.reduceSub, Array.replicate_succ, Array.replicate_zero, List.push_toArray, List.append_toArray, List.nil_append, List.cons_append]
  refine wpIn_wide.2 ?_
  go_wp2
  refine' wp_region_growL 8 [fixd _, fixd _, fixd _, fixd _, fixd _, fixd _, fixd _, fixd _] (by kernel_rfl) (by kernel_rfl) ?_
  rotate_left 8
  simp only [List.take_succ_cons, List.take_zero, List.drop_succ_cons, List.drop_zero]
  try simp only [Act.put, List.setIfInBounds_toArray, List.set_cons_succ, List.set_cons_zero, List.nil_append, List.cons_append]
  refine' wpGrowV_fix _ rfl rfl (fun W hb _ => by have c := cbel hb hc1; go_simp; first | exact xrefl W | exact ⟨rfl, xrefl W⟩) ?_
  try simp only [Act.put, List.setIfInBounds_toArray, List.set_cons_succ, List.set_cons_zero, List.nil_append, List.cons_append]
  refine' wpGrowV_fix _ rfl rfl (fun W hb _ => by go_simp; first | exact xrefl W | exact ⟨rfl, xrefl W⟩) ?_
  try simp only [Act.put, List.setIfInBounds_toArray, List.set_cons_succ, List.set_cons_zero, List.nil_append, List.cons_append]
  refine' wpGrowV_fix _ rfl rfl (fun W hb _ => by go_simp; first | exact xrefl W | exact ⟨rfl, xrefl W⟩) ?_
  try simp only [Act.put, List.setIfInBounds_toArray, List.set_cons_succ, List.set_cons_zero, List.nil_append, List.cons_append]
  refine' wpGrowV_fix _ rfl rfl (fun W hb _ => by have c := cbel hb hcg; go_simp; first | exact xrefl W | exact ⟨rfl, xrefl W⟩) ?_
  try simp only [Act.put, List.setIfInBounds_toArray, List.set_cons_succ, List.set_cons_zero, List.nil_append, List.cons_append]
  refine' wpGrowV_fix _ rfl rfl (fun W hb _ => by have c := cbel hb hc2; go_simp; first | exact xrefl W | exact ⟨rfl, xrefl W⟩) ?_
  try simp only [Act.put, List.setIfInBounds_toArray, List.set_cons_succ, List.set_cons_zero, List.nil_append, List.cons_append]
  refine' wpGrowV_fix (.map v) rfl rfl (fun W hb _ => by have c := hlk W hb; go_simp; first | exact xrefl W | exact ⟨rfl, xrefl W⟩) ?_
  try simp only [Act.put, List.setIfInBounds_toArray, List.set_cons_succ, List.set_cons_zero, List.nil_append, List.cons_append]
  refine' wpGrowV_fix (.int .i64 K.length) rfl rfl (fun W hb _ => by have c := (hSN.out.below hb).len; go_simp; first | exact xrefl W | exact ⟨rfl, xrefl W⟩) ?_
  try simp only [Act.put, List.setIfInBounds_toArray, List.set_cons_succ, List.set_cons_zero, List.nil_append, List.cons_append]
  refine' wpGrowV_fix _ rfl rfl (fun W hb _ => by go_simp; first | exact xrefl W | exact ⟨rfl, xrefl W⟩) ?_
  try simp only [Act.put, List.setIfInBounds_toArray, List.set_cons_succ, List.set_cons_zero, List.nil_append, List.cons_append]
  refine wpGrowV_nil fun W5 hb5 _ => ?_
  have hO5 := Lib.hid (hold.out.below hsz0 hb5)
  have hJ5 : Hid (J (fun _ => False) [] W5) := Lib.hid (hJ.out (fun _ => False) _ [] W W5 h0.out (fun k h => h.elim) (Below.only hb5) (fun k h => h.elim))
  have hc2' := cbel hb5 hc2
  have hc1' := Lib.hid (cbel hb5 hc1)
  have hsz5 := Nat.le_trans hsz0 hb5.size
  clear hb5 hc1 hcg hlk hSN hold h0 hc2
  go_wp2
  rw [hx.out]
  have hmt := Lib.hid fun (k : Nat) W1 (ho : Old lo W0 W1) => meet_any bs D g gb k W1 (h'.out.old ho) hl
  refine (wpIn_wide (n := 0)).1 ?_
  gi_loopw [4, 5] (fun iv kv wx => ∃ (is : Bool) (m : Int) (pre : List Nat), iv = .bool is ∧ kv = .int .i64 m ∧ Hid (is = true → ∃ k : Nat, m = k ∧ LinI bs D R k pre) ∧ Hid (is = false → R = pre) ∧ W0.heap.size ≤ wx.heap.size ∧ Hid (Old lo W0 wx) ∧ Hid (wx.cell? ⟨b1, 0, none⟩ = some (.pointer (some ⟨gb, 0, none⟩))) ∧ Hid (J (fun _ => False) pre wx)) (fun iv kv _ => if isT iv = true then (behindN bs D (intOf kv).toNat).length + 1 else 0)
  case atStart => exact ⟨_, n, [], rfl, rfl, Lib.hid hR0.out.1, Lib.hid hR0.out.2, hsz5, hO5, hc1', hJ5⟩
  case round =>
    clear hO5 hJ5 hsz5 hc1'
    obtain ⟨is, m, pre, rfl, rfl, hyes, hno, hsz, hO, hcb, hJs⟩ := hrel
    have cg1 := hcb.out
    cases is with
    | false =>
      have hRp := hno.out rfl
      replace hRp := Lib.hid hRp
      clear hyes hno
      gi_wp2
      repeat (refine ⟨fun f h => (by cases h), ?_⟩; gi_wp2)
      go_end0
      exact ⟨⟨_, rfl⟩, .inl ⟨_, _, hRp.out.symm, fun k h => h.elim, hJs.out⟩⟩
    | true =>
      obtain ⟨k, rfl, hL⟩ := hyes.out rfl
      obtain ⟨n1, n2, n3, n4⟩ := hL.now g
      obtain ⟨fnc, tmps, assign, body, hy, hR⟩ := hY.out (fun _ => False) pre k wr (fun k h => h.elim) hJs.out n1 ⟨pre.length + 1, n1, n2⟩
      replace hR := Lib.hid hR
      replace n1 := Lib.hid n1
      replace n2 := Lib.hid n2
      replace n3 := Lib.hid n3
      replace n4 := Lib.hid n4
      clear hyes hno hL
      gi_wp2
      refine ⟨rfl, hR.out.mono ?_⟩
      rintro e W3 (⟨rfl, hJ3, hk3⟩ | ⟨rfl, hJx3, hk3⟩)
      · have hO3 : Old lo W0 W3 := fun k hr => (hk3.same k (by have := hr.2; omega) (.inr (.inl hr))).trans (hO.out k hr)
        have cg3 : W3.cell? ⟨b1, 0, none⟩ = some (.pointer (some ⟨gb, 0, none⟩)) := (World.cell?_of_block (hk3.same b1 (cell_lt cg1) (.inr (.inr rfl)))).trans cg1
        have hm3 := Lib.hid (hmt.out k W3 hO3)
        have hsz3 := Nat.le_trans hsz hk3.size
        replace hO3 := Lib.hid hO3
        replace hJ3 := Lib.hid hJ3
        rw [meetZ_nat] at hm3
        clear hk3 hJs hO cg1 hcb
        gi_wp2
        refine ⟨trivial, rfl, (callsIn_wide.2 hm3.out).mono ?_⟩
        rintro e W4 ⟨rfl, hb4⟩
        have hJ4 := Lib.hid (hJ.out (fun _ => False) (fun _ => False) _ W3 W4 hJ3.out (fun k h => h.elim) (Below.only hb4) (fun k h => h.elim))
        have hO4 := Lib.hid (hO3.out.below hsz3 hb4)
        have hsz4 := Nat.le_trans hsz3 hb4.size
        have hcb4 := Lib.hid (cbel hb4 cg3)
        unfold atV
        cases hmm : meetN bs D k with
        | none =>
          have hRp := Lib.hid (n3.out hmm)
          clear hb4 hmm hm3 n4
          gi_wp2
          exact ⟨⟨false, _, pre ++ [k], rfl, rfl, Lib.hid (fun h => by cases h), Lib.hid (fun _ => hRp.out), hsz4, hO4, hcb4, hJ4⟩, by simp [isT]⟩
        | some m =>
          obtain ⟨hL2, hlt⟩ := n4.out m hmm
          clear hb4 hmm hm3 n4
          gi_wp2
          exact ⟨⟨true, _, pre ++ [k], rfl, rfl, Lib.hid (fun _ => ⟨m, rfl, hL2⟩), Lib.hid (fun h => by cases h), hsz4, hO4, hcb4, hJ4⟩, by simp [isT, intOf]; omega⟩
      · gi_wp2
        go_end0
        exact ⟨⟨_, rfl⟩, .inr ⟨_, _, ⟨pre.length + 1, n1.out, n2.out⟩, fun k h => h.elim, hJx3⟩⟩
end Go.Proofs.YtijkdabmegbcjaaGreatDoor
namespace Go.Proofs.YtijkdabmegbcjaaGreatDoor
open Go.RowKit Go.Shelf
attribute [local go_sem] Oper.semAt_some

theorem steps_any (gb : Nat) (n : Int) (w : World) : Calls Tryz.prog 64 #[.pointer (some ⟨gb, 0, none⟩), .int .i64 n] w fun e w' => e = .returned (.func (.func 95) #[] #[.pointer (some ⟨w.heap.size, 0, none⟩), .pointer (some ⟨w.heap.size + 1, 0, none⟩)]) ∧ (w.alloc (.cells #[.pointer (some ⟨gb, 0, none⟩)] 91)).alloc (.cells #[.int .i64 n] 3) = w' := by
  go_enter Tryz.func64, Tryz.ntmps64
  go_wp2
  go_ret
  exact ⟨rfl, rfl⟩
theorem MeetAt.less {lo lo2 : Nat} {w : World} {gb : Nat} {bs : List BlkN} (h : MeetAt lo2 w gb bs) (hl : lo ≤ lo2) : MeetAt lo w gb bs := by
  obtain ⟨hb, F, h⟩ := h
  obtain ⟨E, clk, h1, h2, hp, h3⟩ := h.beh
  refine ⟨hb, F, h.c1, Nat.le_trans hl h.glo, Nat.le_trans hl h.hlo, ⟨E, clk, h1, h2, hp, fun k => ⟨(h3 k).1, fun K hK => ?_⟩⟩, h.ins, h.out⟩
  obtain ⟨b, e1, e2, e3, e4⟩ := (h3 k).2 K hK
  exact ⟨b, e1, e2, Nat.le_trans hl e3, e4⟩
/-- What Line hands back. -/
structure LnAt (bs : List BlkN) (n : Int) (b5 b3 gb lo : Nat) (W0 : World) : Prop where
  c5 : W0.cell? ⟨b5, 0, none⟩ = some (.pointer (some ⟨gb, 0, none⟩))
  c3 : W0.cell? ⟨b3, 0, none⟩ = some (.int .i64 n)
  l5 : lo ≤ b5
  l3 : lo ≤ b3
  m : MeetAt lo W0 gb bs
def LinJ (lo : Nat) (W0 : World) (B l : Nat) (J : (Nat → Prop) → List Nat → World → Prop) (O : Nat → Prop) (pre : List Nat) (W : World) : Prop :=
  J (fun k => O k ∨ (B ≤ k ∧ k < B + 3)) pre W ∧ W.cell? ⟨B, 0, none⟩ = some (.func (.yield l) #[] #[]) ∧ Old lo W0 W
def LinX (B : Nat) (Jx : (Nat → Prop) → List Nat → World → Prop) (c : Code) (O : Nat → Prop) (pre : List Nat) (W : World) : Prop :=
  c = .exit 0 ∧ Jx (fun k => O k ∨ (B ≤ k ∧ k < B + 3)) pre W
theorem linJ_stable (lo : Nat) (W0 : World) (B l : Nat) (J : (Nat → Prop) → List Nat → World → Prop) (hJ : Stable B J) (hB : W0.heap.size ≤ B) : Stable (B + 3) (LinJ lo W0 B l J) := by
  rintro O O' s W W' ⟨h1, h2, h3⟩ hO hon hO'
  have no : ∀ k, k < B + 3 → ¬ O k := fun k hk h => by have := hO k h; omega
  have hs := cell_lt h2
  simp only at hs
  refine ⟨hJ _ _ _ _ _ h1 (fun k h => ?_) (hon.mono fun k _ h => .inl h) (fun k h => ?_), hon.cell h2 (no _ (by simp)), h3.only (by omega) hon (fun k h => by have := hO k h; omega)⟩
  · rcases h with h | h
    · have := hO k h; omega
    · exact h.1
  · rcases h with h | h
    · exact (hO' k h).elim (fun h => .inl (.inl h)) .inr
    · exact .inl (.inr h)
theorem linX_stable (B : Nat) (Jx : (Nat → Prop) → List Nat → World → Prop) (c : Code) (hJ : Stable B Jx) : Stable (B + 3) (LinX B Jx c) := by
  rintro O O' s W W' ⟨hc, h1⟩ hO hon hO'
  refine ⟨hc, hJ _ _ _ _ _ h1 (fun k h => ?_) (hon.mono fun k _ h => .inl h) (fun k h => ?_)⟩
  · rcases h with h | h
    · have := hO k h; omega
    · exact h.1
  · rcases h with h | h
    · exact (hO' k h).elim (fun h => .inl (.inl h)) .inr
    · exact .inl (.inr h)
set_option maxRecDepth 100000 in
set_option maxHeartbeats 4000000 in
theorem line_seq (bs : List BlkN) (D : Nat) (g : Graph bs D) (hl : bs.length ≤ 200) (n : Int) (b5 b3 gb lo : Nat) (W0 W : World) (h : LnAt bs n b5 b3 gb lo W0) (hW : Below W0.heap.size W0 W) :
    SeqP Tryz.prog 63 #[.pointer (some ⟨b5, 0, none⟩), .pointer (some ⟨b3, 0, none⟩)] (fun x : Nat => #[.int .i64 x]) (WkRd lo W0) (fun xs => xs = lineZ bs D n) (fun pre => ∃ k, k ≤ (lineZ bs D n).length ∧ pre = (lineZ bs D n).take k) (lineZ bs D n).length false W := by
  intro l J Jx hJ hJx hY h0 _
  obtain ⟨R, hRe⟩ : ∃ R, lineZ bs D n = R := ⟨_, rfl⟩
  rw [hRe] at hY ⊢
  have hold : Hid (Old lo W0 W) := Lib.hid fun k hk => hW.block k hk.2
  have hsz0 := hW.size
  have hc5 := cbel hW h.c5
  have hc3 := cbel hW h.c3
  have hme := Lib.hid h.m
  clear h hW
  replace hJ := Lib.hid hJ
  replace hJx := Lib.hid hJx
  replace hY := Lib.hid hY
  replace h0 := Lib.hid h0
  refine callsIn_of_wp_marks Tryz.func63 rfl trivial ?_ rfl
  simp only [Tryz.ntmps63, List.size_toArray, List.length_cons, List.length_nil, Nat.reduceAdd, Nat.reduceSub, Array.replicate_succ, Array.replicate_zero, List.push_toArray, List.append_toArray, List.nil_append, List.cons_append]
  gi_wp2
  refine wpIn_scope_wide ?_
  gi_wp2
  refine wpIn_label ?_
  have hc5' := cbel (xalloc (xrefl W) (.cells #[.func (.yield l) #[] #[]] 104)) hc5
  have hc3' := cbel (xalloc (xrefl W) (.cells #[.func (.yield l) #[] #[]] 104)) hc3
  gi_wp2
  refine ⟨trivial, rfl, (callsIn_wide.2 (steps_any gb n _)).mono ?_⟩
  rintro e w' ⟨rfl, rfl⟩
  obtain ⟨Wb, hWb⟩ : ∃ Wb, ((W.alloc (.cells #[.func (.yield l) #[] #[]] 104)).alloc (.cells #[.pointer (some ⟨gb, 0, none⟩)] 91)).alloc (.cells #[.int .i64 n] 3) = Wb := ⟨_, rfl⟩
  have hsb : Wb.heap.size = W.heap.size + 3 := by rw [← hWb]; simp
  have hbb : Below W.heap.size W Wb := by rw [← hWb]; exact xalloc (xalloc (xalloc (xrefl W) _) _) _
  have cY : Wb.cell? ⟨W.heap.size, 0, none⟩ = some (.func (.yield l) #[] #[]) := by rw [← hWb]; simp [go_sem]
  have cG : Wb.cell? ⟨W.heap.size + 1, 0, none⟩ = some (.pointer (some ⟨gb, 0, none⟩)) := by rw [← hWb]; simp [go_sem]
  have cN : Wb.cell? ⟨W.heap.size + 2, 0, none⟩ = some (.int .i64 n) := by rw [← hWb]; simp [go_sem]
  have hOb := hold.out.below hsz0 hbb
  have h00 : LinJ lo W0 W.heap.size l J (fun _ => False) [] Wb := ⟨hJ.out _ _ _ _ _ h0.out (fun k h => h.elim) (Below.only hbb) (fun k h => h.elim (fun h => h.elim) (fun h => .inr h.1)), cY, hOb⟩
  simp only [World.size_alloc]
  rw [hWb]
  clear hWb hc5' hc3' cY
  gi_wp2
  refine wp_rangeP (gf := 95) (lb := #[.pointer (some ⟨W.heap.size + 1, 0, none⟩), .pointer (some ⟨W.heap.size + 2, 0, none⟩)]) rfl (enters_of Tryz.func95 (by kernel_rfl) rfl) (encs := fun x : Nat => #[.int .i64 x]) (Rd := fun k => WkRd lo W0 k ∨ k = W.heap.size + 1)
    (S := fun xs => xs = R) (Sp := fun pre => ∃ k, k ≤ R.length ∧ pre = R.take k) (N := R.length) (inf := false) (fun k h => by rcases h with h | h; have := h.2; omega; omega)
    (fun W1 hb1 => by have := steps_seq bs D g hl n (W.heap.size + 1) (W.heap.size + 2) gb lo W0 W1 hme.out (hOb.below (by omega) hb1) (by have := hb1.size; omega) (cbel hb1 cG) (cbel hb1 cN); rwa [hRe] at this) (fun x => rfl) (LinJ lo W0 W.heap.size l J) (LinX W.heap.size Jx) (by rw [hsb]; exact linJ_stable lo W0 W.heap.size l J hJ.out hsz0) (fun c => by rw [hsb]; exact linX_stable W.heap.size Jx c hJx.out) h00 (fun h => by cases h) ?round ?done ?stop
  case round =>
    rintro l1 O pre x W1 hOl hO ⟨h1, h2, h3⟩ hlen hsp
    rw [hsb] at hO
    gi_wp2
    refine ⟨Keep.refl _ _, fun W2 hon => ?_⟩
    have hl3 : W.heap.size + 3 ≤ l1 := (hO l1 hOl).1
    have c0 := hon.cell h2 (by simp; omega)
    have hs2 := hon.size
    have hl4 := (hO l1 hOl).2
    have hJ2 := hJ.out _ (fun k => O k ∨ (W.heap.size ≤ k ∧ k < W.heap.size + 3)) _ _ W2 h1 (fun k h => h.elim (fun h => by have := hO k h; omega) (fun h => h.1)) (hon.mono fun k _ e => .inl (by rw [e]; exact hOl)) (fun k h => .inl h)
    have hO2 : Old lo W0 W2 := h3.only (by omega) hon (fun k e => by omega)
    have hOw : ∀ k, (O k ∨ (W.heap.size ≤ k ∧ k < W.heap.size + 3)) → W.heap.size ≤ k ∧ k < W2.heap.size := fun k h => by
      rcases h with h | h
      · have := hO k h; omega
      · omega
    obtain ⟨fnc, tmps, assign, body, hy, hR⟩ := hY.out (fun k => O k ∨ (W.heap.size ≤ k ∧ k < W.heap.size + 3)) pre x W2 hOw hJ2 hlen hsp
    have hR' : RoundIn (Fence.wide.inRound l1) 0 Tryz.prog l fnc tmps assign body W2 fun e X' =>
        e = .returned (.bool true) ∧ J (fun k => O k ∨ (W.heap.size ≤ k ∧ k < W.heap.size + 3)) (pre ++ [x]) X' ∧ Keep (fun k => (O k ∨ (W.heap.size ≤ k ∧ k < W.heap.size + 3)) ∨ WkRd lo W0 k) W2 X' ∨
        e = .returned (.bool false) ∧ Jx (fun k => O k ∨ (W.heap.size ≤ k ∧ k < W.heap.size + 3)) (pre ++ [x]) X' ∧ Keep (fun k => (O k ∨ (W.heap.size ≤ k ∧ k < W.heap.size + 3)) ∨ WkRd lo W0 k) W2 X' := hR
    replace hR' := Lib.hid hR'
    replace hO2 := Lib.hid hO2
    replace hOw := Lib.hid hOw
    clear hR h1 h2 h3 hon hO hJ2
    gi_wp2
    refine ⟨rfl, hR'.out.mono ?_⟩
    rintro e W3 (⟨rfl, hJ3, hk3⟩ | ⟨rfl, hJx3, hk3⟩)
    · have c3 := hk3.cell c0 (.inl (.inr (by simp)))
      have hO3 : Old lo W0 W3 := fun k hr => (hk3.same k (by have := hr.2; omega) (.inr hr)).trans (hO2.out k hr)
      have hk4 : Keep (fun k => O k ∨ WkRd lo W0 k ∨ k = W.heap.size + 1) W2 W3 := hk3.mono fun k _ h => by
        rcases h with h | h | h
        · exact .inl (.inl h)
        · exact .inr h
        · exact .inl (.inr (by omega))
      have fin : LinJ lo W0 W.heap.size l J O (pre ++ [x]) W3 := ⟨hJ3, c3, hO3⟩
      replace fin := Lib.hid fin
      replace hk4 := Lib.hid hk4
      clear hk3 hJ3 c3 hO3
      gi_wp2
      exact ⟨hk4.out, fin.out⟩
    · have hk4 : Keep (fun k => O k ∨ WkRd lo W0 k ∨ k = W.heap.size + 1) W2 W3 := hk3.mono fun k _ h => by
        rcases h with h | h | h
        · exact .inl (.inl h)
        · exact .inr h
        · exact .inl (.inr (by omega))
      replace hk4 := Lib.hid hk4
      clear hk3
      gi_wp2
      exact ⟨hk4.out, rfl, hJx3⟩
  case done =>
    rintro D xs O W1 hD hOD hO hS ⟨h1, h2, h3⟩ hK
    gi_wp2
    rw [Exit.noGoto_normal]
    refine ⟨by simp, .inl ⟨_, _, rfl, run_takeDeferred hK, ?_⟩⟩
    have hput := (Only.refl (fun k => O k ∨ (W.heap.size ≤ k ∧ k < W.heap.size + 3)) W1).putObj D (.deferred none) (.inl hOD)
    refine ⟨_, results_none rfl _ _ _, ⟨_, rfl⟩, .inl ⟨_, _, hS, fun k h => ?_, hJ.out _ _ _ _ _ h1 (fun k h => ?_) hput (fun k h => .inl h)⟩⟩
    all_goals
      rcases h with h | h
      · have := hO k h; omega
      · exact h.1
  case stop =>
    rintro D c pre O W1 hD hOD hO ⟨k, hk, hpre⟩ ⟨rfl, hj⟩ hK
    gi_wp2
    rw [Exit.noGoto_normal]
    refine ⟨by simp, .inl ⟨_, _, rfl, run_takeDeferred hK, ?_⟩⟩
    have hput := (Only.refl (fun k => O k ∨ (W.heap.size ≤ k ∧ k < W.heap.size + 3)) W1).putObj D (.deferred none) (.inl hOD)
    refine ⟨_, results_none rfl _ _ _, ⟨_, rfl⟩, .inr ⟨_, _, ⟨k, hk, hpre⟩, fun k h => ?_, hJx.out _ _ _ _ _ hj (fun k h => ?_) hput (fun k h => .inl h)⟩⟩
    all_goals
      rcases h with h | h
      · have := hO k h; omega
      · exact h.1
set_option maxRecDepth 100000 in
theorem line_any (cs : List Nat) (n : Int) (a : Option Addr) (c : Nat) (w : World) (h : CodeAt w a c cs) (hl : cs.length ≤ 100) :
    Calls Tryz.prog 33 #[.slice a cs.length c, .int .i64 n] w fun e w' => (∃ b5 b3 gb, e = .returned (.func (.func 63) #[] #[.pointer (some ⟨b5, 0, none⟩), .pointer (some ⟨b3, 0, none⟩)]) ∧ LnAt (blksN cs) n b5 b3 gb w.heap.size w') ∧ Below w.heap.size w w' := by
  have hb0 : Below w.heap.size w (w.alloc (.cells #[.int .i64 n] 3)) := xalloc (xrefl w) _
  have hof := Lib.hid (ofGraph_any cs a c _ (h.below hb0) hl)
  have hx := (Box.new w (.int .i64 n) 3)
  have hs : (w.alloc (.cells #[.int .i64 n] 3)).heap.size = w.heap.size + 1 := World.size_alloc _ _
  replace hb0 := Lib.hid hb0
  replace hx := Lib.hid hx
  replace hs := Lib.hid hs
  clear h
  go_enter Tryz.func33, Tryz.ntmps33
  go_wp2_with (go_at_call 56; refine hof.out.mono ?_; rintro e w1 ⟨⟨gb, rfl, hG⟩, hb1⟩; have hme := Lib.hid hG.meet; have hx1 := Lib.hid (hx.out.below hb1); replace hb1 := Lib.hid (xtrans hb0.out hb1); clear hG)
  go_ret
  have hb2 := xalloc (xrefl w1) (.cells #[.pointer (some ⟨gb, 0, none⟩)] 91)
  have hlt := hb1.out.size
  exact ⟨⟨_, _, gb, rfl, (Box.new w1 _ 91).cell, cbel hb2 hx1.out.cell, by omega, Nat.le_refl _, (hme.out.below hb2).less (by rw [World.size_alloc]; omega)⟩, xtrans hb1.out hb2⟩
end Go.Proofs.YtijkdabmegbcjaaGreatDoor
