/- Texts of this claim, merged; no condition. -/
import Derived.Deep.AppendSrc
import Derived.Deep.Upon
import Derived.Test.YtijkdabmegbcjaaGreatDoorQ30
import Derived.Test.YtijkdabmegbcjaaGreatDoorQ28
import Derived.Test.YtijkdabmegbcjaaGreatDoorQ29
set_option linter.all false
namespace Go.Proofs.YtijkdabmegbcjaaGreatDoor
open Go.RowKit

/-- A new slice of the call's own with nothing in it, its block from B2 on. -/
def emptyT (B B2 : Nat) : Told := ⟨fun v => ∃ b : Nat, B2 ≤ b ∧ v = .slice (some ⟨b, 0, none⟩) 0 0, fun v W => W.ownsRow B 3 1 v 0 [], ⟨_, B2, Nat.le_refl _, rfl⟩, fun _ _ _ h hb => own_keep h hb⟩
/-- A slice of the call's own, its block from B2 on. -/
def rowsT (B B2 : Nat) (l : List Nat) : Told := ⟨fun v => (∃ a c, v = .slice a l.length c) ∧ ∀ k, v.ownBlock = some k → B2 ≤ k, fun v W => W.ownsRow B 3 1 v l.length ((natI l).map (Value.int .i64)),
  ⟨.slice none l.length 0, ⟨none, 0, rfl⟩, fun k h => by cases h⟩, fun _ _ _ h hb => own_keep h hb⟩
theorem empty_own (W : World) (B : Nat) (hB : B ≤ W.heap.size) : (W.alloc (.cells #[] 3)).ownsRow B 3 1 (.slice (some ⟨W.heap.size, 0, none⟩) 0 0) 0 [] :=
  ⟨rfl, .inr ⟨W.heap.size, 0, #[], rfl, hB, World.alloc_heap_new W _, Nat.le_refl _, by unfold maxLen; omega, rfl, rfl⟩⟩
theorem run_exec_append {P : Program} {o : Oper} {ac : Act} {w : World} (s x : Operand) (t t' : TypeId) (ho : o.op = .call { callee := .builtin .append, args := #[s, x], argTypes := #[t, t'] }) (v u : Value) (hs : ac.eval s = v) (hx : ac.eval x = u) (v' : Value) (w' : World)
    (hrun : (Builtin.append_ #[t, t'] o.type #[v, u]).run P w = .ok v' w') : (execOp ac.eval o).run P w = .ok (.value v') w' := by
  unfold execOp
  simp only [ho, resolve, invoke, builtin, Sem.run_bind, Sem.run_pure, Result.andThen_ok, List.map_toArray, List.map_cons, List.map_nil, hs, hx, hrun]
/-- Appended to nothing: a new row, or nothing. -/
theorem run_append_zero {P : Program} (w : World) (base B2 : Nat) (t ty e : TypeId) (i : TypeInfo) (z : Value) (bytes : Nat) (ht : P.underlying t = some (.slice e)) (hi : P.info? e = some i) (hz : i.zero = some z)
    (hsize : i.size = 1) (hby : i.bytes = bytes) (hzs : z.cells.size = 1) (b : Nat) (hb : B2 ≤ b) (hown : w.ownsRow base e 1 (.slice (some ⟨b, 0, none⟩) 0 0) 0 [])
    (a : Option Addr) (c : Nat) (hn : a = none → c = 0) (q : IntKind) (zs : List Int) (hr : RowAt q w a zs) (hl : zs.length * bytes ≤ 140737488355328 ∧ zs.length ≤ 4611686018427387904) (hbase : base ≤ w.heap.size) (hB2 : B2 ≤ w.heap.size) :
    ∃ v' w', (Builtin.append_ #[t, t] ty #[.slice (some ⟨b, 0, none⟩) 0 0, .slice a zs.length c]).run P w = .ok v' w' ∧ w'.ownsRow base e 1 v' zs.length (zs.map (Value.int q)) ∧ Below w.heap.size w w' ∧ ∀ k, v'.ownBlock = some k → B2 ≤ k := by
  have hsrc : Src P i.size t (.slice a zs.length c) zs.length (zs.map (Value.int q)) w := by
    rw [hsize]
    cases a with
    | none =>
      have h0 : zs = [] := by
        cases zs with
        | nil => rfl
        | cons x l => obtain ⟨b, o, h1, _⟩ := hr 0 (by simp); cases h1
      subst h0
      exact Src.ofNil w ht c
    | some x =>
      exact Src.ofSlice w ht x zs.length c (zs.map (Value.int q)) (by simp) (by
        intro j u hj
        rw [List.getElem?_map] at hj
        obtain ⟨y, hy, rfl⟩ := Option.map_eq_some_iff.1 hj
        obtain ⟨hlt, rfl⟩ := List.getElem?_eq_some_iff.1 hy
        obtain ⟨b, o, h1, h2⟩ := hr j hlt
        cases h1
        rw [Addr.add_lit]
        exact h2) (ints_oneCell _ _)
  by_cases h0 : zs = []
  · subst h0
    have := run_append_nothing (P := P) w t t ty e i ht hi (some ⟨b, 0, none⟩) 0 0 (Nat.le_refl _) _ hsrc
    exact ⟨_, _, this, hown, xrefl w, fun k hk => by cases hk; exact hb⟩
  · have hlen : 0 < zs.length := List.length_pos_iff.2 h0
    have hold : (Builtin.firstCells i.size 0 (.slice (some ⟨b, 0, none⟩) 0 0)).run P w.drew = .ok (([] : List Value).toArray) w.drew := run_firstCells_some w.drew i.size 0 ⟨b, 0, none⟩ 0 0 [] (by simp) (by simp)
    have hc := nextslicecap_le (need := 0 + zs.length) (old := 0) (by omega)
    have hgrow := run_append_grow_src (P := P) w t t ty e i z ht hi hz (some ⟨b, 0, none⟩) 0 0 [] hold _ zs.length _ hsrc (by omega) (by omega) (by
      rw [hby]
      have := Nat.mul_le_mul_right bytes hc
      have e : 2 * (0 + zs.length) * bytes = 2 * (zs.length * bytes) := by rw [Nat.zero_add, Nat.mul_assoc]
      omega)
    cases a with
    | none =>
      obtain ⟨b', o', h1, _⟩ := hr 0 hlen
      cases h1
    | some x =>
      obtain ⟨v', w', h1, h2, -, -⟩ := run_append_own (P := P) (w := w) base t ty e i z 1 bytes ht hi hz hsize hby hzs (by decide) _ 0 [] hown x zs.length c (zs.map (Value.int q)) (by simp) (by
        intro j u hj
        rw [List.getElem?_map] at hj
        obtain ⟨y, hy, rfl⟩ := Option.map_eq_some_iff.1 hj
        obtain ⟨hlt, rfl⟩ := List.getElem?_eq_some_iff.1 hy
        obtain ⟨b, o, h1, h2⟩ := hr j hlt
        cases h1
        rw [Addr.add_lit]
        exact h2) (ints_oneCell _ _) (by unfold maxLen; omega) (by rw [Nat.zero_add]; exact hl.1) hbase
      have he := h1.symm.trans hgrow
      injection he with e1 e2
      subst e1 e2
      simp only [Nat.zero_add, List.nil_append] at h1 h2
      exact ⟨_, _, h1, h2, xalloc (xdrew (xrefl w)) _, fun k hk => by cases hk; exact hB2⟩
/-- What an append onto a slice of the call's own gives, nil or not; and where it lies. -/
theorem run_append_row_blk {P : Program} (w : World) (base : Nat) (t ty e : TypeId) (i : TypeInfo) (z : Value) (bytes : Nat) (ht : P.underlying t = some (.slice e)) (hi : P.info? e = some i) (hz : i.zero = some z)
    (hsize : i.size = 1) (hby : i.bytes = bytes) (hzs : z.cells.size = 1) (v : Value) (n : Nat) (xs : List Value) (hown : w.ownsRow base e 1 v n xs)
    (a : Option Addr) (c : Nat) (hn : a = none → c = 0) (q : IntKind) (zs : List Int) (hr : RowAt q w a zs) (h63 : n + zs.length ≤ maxLen) (hbytes : (n + zs.length) * bytes ≤ 140737488355328) (hbase : base ≤ w.heap.size) :
    ∃ v' w', (Builtin.append_ #[t, t] ty #[v, .slice a zs.length c]).run P w = .ok v' w' ∧ w'.ownsRow base e 1 v' (n + zs.length) (xs ++ zs.map (Value.int q)) ∧ w.grownBy w' v.ownBlock ∧ (v'.ownBlock = v.ownBlock ∨ ∀ k, v'.ownBlock = some k → w.heap.size ≤ k) := by
  cases a with
  | none =>
    have h0 : zs = [] := by
      cases zs with
      | nil => rfl
      | cons x l => obtain ⟨b, o, h1, _⟩ := hr 0 (by simp); cases h1
    subst h0
    obtain rfl := hn rfl
    exact ⟨v, w, run_append_owned_none w base t ty e i 1 ht hi v n xs hown, by simpa using hown, World.grownBy.refl _ _, .inl rfl⟩
  | some x =>
    exact run_append_own_blk (P := P) w base t ty e i z bytes ht hi hz hsize hby hzs v n xs hown x zs.length c (zs.map (Value.int q)) (by simp) (by
      intro j u hj
      rw [List.getElem?_map] at hj
      obtain ⟨y, hy, rfl⟩ := Option.map_eq_some_iff.1 hj
      obtain ⟨hlt, rfl⟩ := List.getElem?_eq_some_iff.1 hy
      obtain ⟨b, o, h1, h2⟩ := hr j hlt
      cases h1
      rw [Addr.add_lit]
      exact h2) (ints_oneCell _ _) h63 hbytes hbase
theorem own_cap {w : World} {base : Nat} {e : TypeId} {a : Option Addr} {n m c : Nat} {xs : List Value} (h : w.ownsRow base e 1 (.slice a m c) n xs) (hm : m = n) : m ≤ c := by
  rcases h.2 with ⟨e1, e2⟩ | ⟨g, cap, cur, e1, _, _, hc, _⟩
  · cases e1; exact Nat.zero_le _
  · cases e1; omega
theorem own_blk2 {w : World} {base : Nat} {e : TypeId} {a : Option Addr} {n m c : Nat} {xs : List Value} (h : w.ownsRow base e 1 (.slice a m c) n xs) {x : Addr} (hx : a = some x) : (Value.slice a m c).ownBlock = some x.block := by
  rcases h.2 with ⟨e1, e2⟩ | ⟨g, cap, cur, e1, _, _, hc, _⟩
  · cases e1; cases hx
  · cases e1; cases hx; rfl
def withoutZ (bs : List BlkN) (D : Nat) (n but : Int) : List Nat := if 0 ≤ n then withoutN bs D n.toNat but else []
theorem withoutZ_nat (bs : List BlkN) (D k : Nat) (but : Int) : withoutZ bs D k but = withoutN bs D k but := by unfold withoutZ; rw [if_pos (by omega), Int.toNat_natCast]
/-- What a look-up gives. -/
def FndZ (w : World) (bs : List BlkN) (n : Int) (e : Ending) (w' : World) : Prop := (∃ p q F La X L, e = .returned (.tuple #[.agg #[.int .i64 F, .int .i64 La, .slice p L q, .bool X], .bool (findZ bs n).isSome]) ∧ ∀ k : Nat, n = k → L = (nextOf bs k).length ∧ X = exitOf bs k ∧ IntsAt w' p q (nextOf bs k)) ∧ Below w.heap.size w w'
theorem find_any2 (bs : List BlkN) (n : Int) (a : Option Addr) (c : Nat) (w : World) (h : BlksAt w a c bs) (hl : bs.length ≤ 1000) : Calls Tryz.prog 34 #[.slice a bs.length c, .int .i64 n] w (FndZ w bs n) := by
  refine (refFind_any bs n a c w h hl).mono ?_
  rintro e w' ⟨⟨p, q, rfl, hI⟩, hb⟩
  refine ⟨⟨p, q, _, _, _, _, rfl, ?_⟩, hb⟩
  rintro k rfl
  have e2 : exitOf bs k = ((findZ bs (k : Int)).getD blk0).exit := by
    rw [findZ_nat]
    unfold exitOf
    cases findB bs k <;> rfl
  rw [nextOf_get bs k]
  exact ⟨rfl, e2.symm, hI⟩
set_option maxRecDepth 100000 in
set_option maxHeartbeats 4000000 in
theorem refWithout_any (bs : List BlkN) (D : Nat) (g : Graph bs D) (n but : Int) (a : Option Addr) (c : Nat) (w : World) (h : BlksAt w a c bs) (hl : bs.length ≤ 100) (hD : D ≤ 100) :
    Calls Tryz.prog 91 #[.slice a bs.length c, .int .i64 n, .int .i64 but] w fun e w' => (∃ v, e = .returned v ∧ OwnI w w' v (withoutZ bs D n but)) ∧ Below w.heap.size w w' := by
  obtain ⟨i0, hi0, hz0, hz1, hz2⟩ := info_parts info_int
  have hfd := Lib.hid fun W (hW : Below w.heap.size w W) m => find_any2 bs m a c W (h.below hW) (by omega)
  clear h
  by_cases h0 : (findZ bs n).isSome = false ∨ n = but
  · have hz : withoutZ bs D n but = [] := by
      unfold withoutZ
      split
      · rename_i hn
        obtain ⟨k, rfl⟩ := Int.eq_ofNat_of_zero_le hn
        rw [Int.toNat_natCast]
        unfold withoutN
        rw [if_neg]
        rintro ⟨h1, h2⟩
        rcases h0 with h0 | h0
        · rw [findZ_nat] at h0
          rw [h0] at h1; cases h1
        · exact h2 h0
      · rfl
    rw [hz]
    replace hz := Lib.hid hz
    have hO := OwnI.nil w
    generalize hfs : (findZ bs n).isSome = fs at *
    have hfd2 : Hid (∀ W, Below w.heap.size w W → Calls Tryz.prog 34 #[.slice a bs.length c, .int .i64 n] W fun e w' => (∃ p q F La X L, e = .returned (.tuple #[.agg #[.int .i64 F, .int .i64 La, .slice p L q, .bool X], .bool fs])) ∧ Below W.heap.size W w') := Lib.hid fun W hW => (hfd.out W hW n).mono fun e w' ⟨⟨p, q, F, La, X, L, he, _⟩, hb⟩ => ⟨⟨p, q, F, La, X, L, by rw [he, hfs]⟩, hb⟩
    clear hfd hfs
    cases fs with
    | false =>
      clear h0
      go_enter Tryz.func91, Tryz.ntmps91
      go_wp2_with (first
        | (go_at_call 34; refine (hfd2.out _ (xrefl w)).mono ?_; rintro e w1 ⟨⟨p, q, F, La, X, L, rfl⟩, hw1⟩; replace hw1 := Lib.hid hw1; have hX1 := Lib.hid (BlkG.new w1 51 [.int .i64 0, .int .i64 0, .slice none 0 0, .bool false]))
        | (refine wpList_store_blkG rfl 51 _ _ rfl w1.heap.size rfl 51 [.int .i64 0, .int .i64 0, .slice none 0 0, .bool false] [.int .i64 F, .int .i64 La, .slice p L q, .bool X] hX1.out rfl rfl (by kernel_rfl) rfl ?_; intro w2 hX2 ho2; have hb2 := Lib.hid (ho2.below (xalloc hw1.out _) (xalloc hw1.out (.cells #[.int .i64 0, .int .i64 0, .slice none 0 0, .bool false] 51)).size (by rintro k rfl; exact hw1.out.size)); clear hX2 ho2))
      go_ret
      exact ⟨⟨_, rfl, hO.below hb2.out⟩, hb2.out⟩
    | true =>
      have h1 : n = but := by
        rcases h0 with h0 | h0
        · cases h0
        · exact h0
      subst h1
      clear h0
      go_enter Tryz.func91, Tryz.ntmps91
      go_wp2_with (first
        | (go_at_call 34; refine (hfd2.out _ (xrefl w)).mono ?_; rintro e w1 ⟨⟨p, q, F, La, X, L, rfl⟩, hw1⟩; replace hw1 := Lib.hid hw1; have hX1 := Lib.hid (BlkG.new w1 51 [.int .i64 0, .int .i64 0, .slice none 0 0, .bool false]))
        | (refine wpList_store_blkG rfl 51 _ _ rfl w1.heap.size rfl 51 [.int .i64 0, .int .i64 0, .slice none 0 0, .bool false] [.int .i64 F, .int .i64 La, .slice p L q, .bool X] hX1.out rfl rfl (by kernel_rfl) rfl ?_; intro w2 hX2 ho2; have hb2 := Lib.hid (ho2.below (xalloc hw1.out _) (xalloc hw1.out (.cells #[.int .i64 0, .int .i64 0, .slice none 0 0, .bool false] 51)).size (by rintro k rfl; exact hw1.out.size)); clear hX2 ho2))
      go_ret
      exact ⟨⟨_, rfl, hO.below hb2.out⟩, hb2.out⟩
  · have hs0 : (findZ bs n).isSome = true := by
      cases e : (findZ bs n).isSome with
      | true => rfl
      | false => exact absurd (.inl e) h0
    obtain ⟨k, rfl, hk⟩ : ∃ k : Nat, n = k ∧ k ∈ keysB bs := by
      by_cases hn : 0 ≤ n
      · obtain ⟨k, rfl⟩ := Int.eq_ofNat_of_zero_le hn
        rw [findZ_nat] at hs0
        exact ⟨k, rfl, find_key.1 hs0⟩
      · rw [findZ_neg (by omega)] at hs0; cases hs0
    have hs := hs0
    clear hs0
    have hne : ¬ (k : Int) = but := fun e => h0 (.inr e)
    have hF0 := Lib.hid (withoutZ_nat bs D k but)
    have hW0 : Hid (withoutN bs D k but = withF bs but (muW bs D [] [k]) [] [k]) := Lib.hid (by unfold withoutN; rw [if_pos ⟨find_key.2 hk, hne⟩])
    have hmu0 : muW bs D [] [k] ≤ 10101 := by
      unfold muW
      have := Nat.mul_le_mul (show bs.length - ([] : List Nat).length ≤ 100 by simp; omega) (show D + 1 ≤ 101 by omega)
      simp at this ⊢
      omega
    rw [hF0.out, hW0.out]
    generalize hf0 : muW bs D [] [k] = F0 at *
    obtain ⟨R, hR⟩ : ∃ R, R = withF bs but F0 [] [k] := ⟨_, rfl⟩
    rw [← hR]
    replace hR := Lib.hid hR
    clear h0
    go_enter Tryz.func91, Tryz.ntmps91
    go_wp2_with (first
      | (go_at_call 34; refine (hfd.out _ (xrefl w) (k : Int)).mono ?_; rintro e w1 ⟨⟨p, q, F, La, X, L, rfl, hpI⟩, hw1⟩; obtain ⟨rfl, -, -⟩ := hpI k rfl; clear hpI; rw [hs]; replace hw1 := Lib.hid hw1; have hX1 := Lib.hid (BlkG.new w1 51 [.int .i64 0, .int .i64 0, .slice none 0 0, .bool false]))
      | (refine wpList_store_blkG rfl 51 _ _ rfl w1.heap.size rfl 51 [.int .i64 0, .int .i64 0, .slice none 0 0, .bool false] [.int .i64 F, .int .i64 La, .slice p (nextOf bs k).length q, .bool X] hX1.out rfl rfl (by kernel_rfl) rfl ?_; intro w2 hX2 ho2; have hb2 := Lib.hid (ho2.below (xalloc hw1.out _) (xalloc hw1.out (.cells #[.int .i64 0, .int .i64 0, .slice none 0 0, .bool false] 51)).size (by rintro k rfl; exact hw1.out.size)); clear hX2 ho2))
    have hb3 := xalloc hb2.out (.cells #[.int .i64 k] 3)
    have hI3 : IntsAt (w2.alloc (.cells #[.int .i64 k] 3)) (some ⟨w2.heap.size, 0, none⟩) 1 [k] := ⟨rowAt_new w2 _ [(k : Int)], fun e => by cases e⟩
    have hO3 : OwnI w (w2.alloc (.cells #[.int .i64 k] 3)) (.slice none 0 0) [] := ⟨rfl, .inl ⟨rfl, rfl⟩⟩
    replace hb3 := Lib.hid hb3
    replace hI3 := Lib.hid hI3
    replace hO3 := Lib.hid hO3
    clear hb2 hw1 hX1 hs
    rw [show ((k : Int) == but) = false by simpa using hne]
    go_loopw [7, 10] (fun ov nv wx => ∃ (f : Nat) (out now : List Nat) (a10 : Option Addr) (c10 : Nat), nv = .slice a10 now.length c10 ∧ now.length ≤ c10 ∧ now.length ≤ 10101 ∧ out.length ≤ 100 ∧ Hid (∀ x k, a10 = some x → ov.ownBlock = some k → x.block ≠ k) ∧ Hid (OwnI w wx ov out) ∧ Hid (IntsAt wx a10 c10 now) ∧ Hid (muW bs D out now ≤ f ∧ f ≤ F0 ∧ out.Nodup ∧ (∀ x ∈ out, x ∈ keysB bs) ∧ (∀ x ∈ now, x ∈ keysB bs) ∧ withF bs but f out now = R) ∧ Hid (Below w.heap.size w wx)) (fun ov nv wx => lenV nv + (bs.length - lenV ov) * (D + 1))
    case atStart => exact ⟨F0, [], [k], _, 1, rfl, by simp, by simp, by simp, Lib.hid (fun x k _ h => by cases h), hO3, hI3, Lib.hid ⟨by omega, Nat.le_refl _, by simp, by simp, by simpa using hk, hR.out.symm⟩, hb3⟩
    case round =>
      clear hO3 hI3 hb3
      obtain ⟨f, out, now, a10, c10, rfl, hnc, hnl, hol, hap, hO, hI, hG, hb⟩ := hrel
      obtain ⟨ao, co, rfl, hIo, hlo⟩ := hO.out.at
      replace hIo := Lib.hid hIo
      replace hlo := Lib.hid hlo
      cases now with
      | nil =>
        have he : out = R := by
          have := hG.out.2.2.2.2.2
          rw [← this]
          cases f <;> rfl
        go_wp2
        go_ret
        exact ⟨⟨_, rfl, by rw [← he]; exact hO.out⟩, hb.out⟩
      | cons kk r =>
        rw [List.length_cons] at *
        have hkk : kk ∈ keysB bs := hG.out.2.2.2.2.1 kk (by simp)
        obtain ⟨b, o, rfl, hc0⟩ := hI.out.get (i := 0) (by simp)
        rw [List.getElem_cons_zero, Nat.add_zero] at hc0
        have hsl : ∀ W, (Instr.slice 42 (.slice (some ⟨b, o, none⟩) (r.length + 1) c10) (some (.int .i64 1)) none none).run Tryz.prog W = .ok (.slice (sl2 (some ⟨b, o, none⟩) 1 c10) r.length (c10 - 1)) W := fun W => run_slice_lo (P := Tryz.prog) 42 3 (some ⟨b, o, none⟩) (r.length + 1) c10 1 W Tryz.underlying42 (by kernel_rfl) (by omega) hnc
        have hIr : IntsAt wr (sl2 (some ⟨b, o, none⟩) 1 c10) (c10 - 1) r := ⟨by
          have := rowAt_drop hI.out.row 1 c10 (by rw [natI_len, List.length_cons]; exact hnc)
          simpa [natI] using this, sl2_none (by simp)⟩
        have hap4 : Hid (∀ x k, sl2 (some ⟨b, o, none⟩) 1 c10 = some x → (Value.slice ao out.length co).ownBlock = some k → x.block ≠ k) := Lib.hid fun x k h1 h2 => by
          unfold sl2 at h1
          split at h1
          · exact hap.out x k h1 h2
          · injection h1 with h1
            rw [← h1]
            have := hap.out _ k rfl h2
            simpa [Addr.add] using this
        generalize sl2 (some ⟨b, o, none⟩) 1 c10 = a4 at *
        obtain ⟨c4, hc4⟩ : ∃ c4, c4 = c10 - 1 := ⟨_, rfl⟩
        rw [← hc4] at hsl hIr
        have hrc : r.length ≤ c4 := by omega
        have hin := fun W (hW : Below wr.heap.size wr W) => refIn_any out (kk : Int) ao co W (hIo.out.below hW) (by omega)
        rw [inN_nat] at hin
        have hmo := mu_out (bs := bs) (D := D) (out := out) (now := r) (k := kk)
        have hfp : 0 < f := by have := hG.out.1; unfold muW at this; rw [List.length_cons] at this; omega
        obtain ⟨f, rfl⟩ : ∃ f', f = f' + 1 := ⟨f - 1, by omega⟩
        replace hc4 := Lib.hid hc4
        replace hIr := Lib.hid hIr
        replace hin := Lib.hid hin
        replace hmo := Lib.hid hmo
        by_cases hcc : kk ∈ out
        · have hst : withF bs but f out r = R := by
            have := hG.out.2.2.2.2.2
            unfold withF at this
            rwa [if_pos (.inl hcc)] at this
          rw [decide_eq_true hcc] at hin
          replace hst := Lib.hid hst
          clear hcc
          go_wp2_with (go_at_call 47; refine (hin.out _ (xrefl _)).mono ?_; rintro e w' ⟨rfl, rfl⟩)
          go_roundw
          case rel => exact ⟨f, out, r, a4, c4, rfl, hrc, by omega, hol, hap4, hO, hIr, Lib.hid ⟨by have := hmo.out; have := hG.out.1; omega, by have := hG.out.2.1; omega, hG.out.2.2.1, hG.out.2.2.2.1, fun x hx => hG.out.2.2.2.2.1 x (by simp [hx]), hst.out⟩, hb⟩
          case measure => show r.length + (bs.length - out.length) * (D + 1) < (r.length + 1) + (bs.length - out.length) * (D + 1); omega
        · by_cases hbb : (kk : Int) = but
          · have hst : withF bs but f out r = R := by
              have := hG.out.2.2.2.2.2
              unfold withF at this
              rwa [if_pos (.inr hbb)] at this
            rw [decide_eq_false hcc] at hin
            replace hst := Lib.hid hst
            clear hcc
            subst hbb
            go_wp2_with (go_at_call 47; refine (hin.out _ (xrefl _)).mono ?_; rintro e w' ⟨rfl, rfl⟩)
            go_roundw
            case rel => exact ⟨f, out, r, a4, c4, rfl, hrc, by omega, hol, hap4, hO, hIr, Lib.hid ⟨by have := hmo.out; have := hG.out.1; omega, by have := hG.out.2.1; omega, hG.out.2.2.1, hG.out.2.2.2.1, fun x hx => hG.out.2.2.2.2.1 x (by simp [hx]), hst.out⟩, hb⟩
            case measure => show r.length + (bs.length - out.length) * (D + 1) < (r.length + 1) + (bs.length - out.length) * (D + 1); omega
          · have hst : withF bs but f (out ++ [kk]) (r ++ nextOf bs kk) = R := by
              have := hG.out.2.2.2.2.2
              unfold withF at this
              rwa [if_neg (by rintro (h | h); exact hcc h; exact hbb h)] at this
            have hmi := mu_in g (now := r) hG.out.2.2.1 hG.out.2.2.2.1 hkk hcc
            rw [decide_eq_false hcc] at hin
            replace hst := Lib.hid hst
            replace hmi := Lib.hid hmi
            replace hcc := Lib.hid hcc
            have hnx := g.nextLen kk
            have hsb : w.heap.size ≤ (wr.alloc (.cells #[.int .i64 (kk : Int)] 3)).heap.size := by rw [World.size_alloc]; have := hb.out.size; omega
            have hol2 : out.length + 1 ≤ 100 := by
              have hnd : (out ++ [kk]).Nodup := List.nodup_append.2 ⟨hG.out.2.2.1, by simp, fun x hx y hy e => hcc.out (by simp at hy; rw [← hy, ← e]; exact hx)⟩
              have := g.le hnd (fun x hx => by
                rcases List.mem_append.1 hx with e | e
                · exact hG.out.2.2.2.1 x e
                · rw [List.mem_singleton] at e; rw [e]; exact hkk)
              rw [List.length_append, List.length_singleton] at this
              omega
            go_wp2_with (first
              | (go_at_call 47; refine (hin.out _ (xrefl _)).mono ?_; rintro e w' ⟨rfl, rfl⟩)
              | (at_builtin; refine wpList_append_row (wr.alloc (.cells #[.int .i64 (kk : Int)] 3)) rfl _ _ 42 rfl w.heap.size 3 i0 (.int .i64 0) 8 Tryz.underlying42 hi0 hz0 hz1 hz2 rfl _ out.length _ rfl (hO.out.alloc _) (some ⟨wr.heap.size, 0, none⟩) 1 .i64 [(kk : Int)] rfl (by simp) (rowAt_one wr 3 (kk : Int)) (by unfold maxLen; simp; omega) (by simp; omega) hsb ?_; intro v2 wa ho2 hg2; have hba := Lib.hid ((xalloc hb.out _).grown hg2 hsb (fun j hj => (hO.out.lt j hj).1)); have hOa := Lib.hid (OwnI.snoc ho2); have hIa := Lib.hid ((hIr.out.below (xalloc (xrefl wr) (.cells #[.int .i64 (kk : Int)] 3))).only0 (only_grown hg2) (fun _ x hx e => hap4.out x _ hx e rfl)); obtain ⟨a2, c2, rfl⟩ := own_slice ho2; clear hg2 ho2)
              | (go_at_call 34; refine (hfd.out _ hba.out (kk : Int)).mono ?_; rintro e w3 ⟨⟨p, q, F, La, X, L, rfl, hpI⟩, hw3⟩; obtain ⟨rfl, -, hIL⟩ := hpI kk rfl; replace hIL := Lib.hid hIL; have hO3 := Lib.hid (hOa.out.below hw3); have hI3 := Lib.hid (hIa.out.below hw3); replace hw3 := Lib.hid (xtrans hba.out hw3); have hX3 := Lib.hid (BlkG.new w3 51 [.int .i64 0, .int .i64 0, .slice none 0 0, .bool false]); clear hpI)
              | (refine wpList_store_blkG rfl 51 _ _ rfl w3.heap.size rfl 51 [.int .i64 0, .int .i64 0, .slice none 0 0, .bool false] [.int .i64 F, .int .i64 La, .slice p (nextOf bs kk).length q, .bool X] hX3.out rfl rfl (by kernel_rfl) rfl ?_; intro w4 hX4 ho4; have hb34 := Lib.hid (ho4.below (xalloc (xrefl w3) (.cells #[.int .i64 0, .int .i64 0, .slice none 0 0, .bool false] 51)) (xalloc (xrefl w3) (.cells #[.int .i64 0, .int .i64 0, .slice none 0 0, .bool false] 51)).size (by rintro k rfl; exact Nat.le_refl _)); have cnx : w4.cell? ⟨w3.heap.size, 2, none⟩ = some (.slice p (nextOf bs kk).length q) := (by simpa using hX4.range 2 _ rfl); have hw4 := Lib.hid (xtrans hw3.out hb34.out); have hI4 := Lib.hid (hI3.out.below hb34.out); have hO4 := Lib.hid (hO3.out.below hb34.out); have hIL4 := Lib.hid (hIL.out.below hb34.out); clear ho4 hX4))
            have hw4l := hw4.out.size
            clear hX3 hI3 hO3 hIL hIa hOa hba
            refine' wp_region_growL 5 [emptyT w.heap.size w4.heap.size, fixd _, rowsT w.heap.size w4.heap.size r, fixd _, fixd _] (by kernel_rfl) (by kernel_rfl) ?_
            rotate_left 3
            simp only [List.take_succ_cons, List.take_zero, List.drop_succ_cons, List.drop_zero]
            try simp only [Act.put, List.setIfInBounds_toArray, List.set_cons_succ, List.set_cons_zero, List.nil_append, List.cons_append]
            refine wpGrowV_any (emptyT w.heap.size w4.heap.size) rfl rfl (fun W hb _ => ?_) (fun v hv => ?_)
            · go_simp
              exact ⟨⟨⟨_, hb.size, rfl⟩, empty_own W _ (Nat.le_trans hw4l hb.size)⟩, xalloc (xrefl W) _⟩
            obtain ⟨b55, hb55, rfl⟩ := hv
            try simp only [Act.put, List.setIfInBounds_toArray, List.set_cons_succ, List.set_cons_zero, List.nil_append, List.cons_append]
            refine' wpGrowV_fix _ rfl rfl (fun W hb _ => by go_simp; first | exact xrefl W | exact ⟨rfl, xrefl W⟩) ?_
            try simp only [Act.put, List.setIfInBounds_toArray, List.set_cons_succ, List.set_cons_zero, List.nil_append, List.cons_append]
            refine wpGrowV_any (rowsT w.heap.size w4.heap.size r) rfl rfl (fun W hb hF => ?_) (fun v hv => ?_)
            · have h55 := hF 0 (by kernel_rfl) (by simp)
              clear hF
              obtain ⟨v', w', hrun, h1, h2, h3⟩ := run_append_zero (P := Tryz.prog) W w.heap.size w4.heap.size 42 42 3 i0 (.int .i64 0) 8 Tryz.underlying42 hi0 hz0 hz1 hz2 rfl b55 hb55 h55 a4 c4 hI4.out.nil .i64 (natI r) (hI4.out.row.below hb) (by rw [natI_len]; omega) (Nat.le_trans hw4l hb.size) hb.size
              rw [natI_len] at hrun h1
              rw [run_exec_append (P := Tryz.prog) _ _ 42 42 rfl _ _ rfl rfl v' w' hrun]
              exact ⟨⟨⟨(own_slice h1), h3⟩, h1⟩, h2⟩
            obtain ⟨⟨a57, c57, rfl⟩, h57⟩ := hv
            try simp only [Act.put, List.setIfInBounds_toArray, List.set_cons_succ, List.set_cons_zero, List.nil_append, List.cons_append]
            refine' wpGrowV_fix _ rfl rfl (fun W hb _ => by go_simp; first | exact xrefl W | exact ⟨rfl, xrefl W⟩) ?_
            try simp only [Act.put, List.setIfInBounds_toArray, List.set_cons_succ, List.set_cons_zero, List.nil_append, List.cons_append]
            refine' wpGrowV_fix _ rfl rfl (fun W hb _ => by have c := cbel hb cnx; go_simp; first | exact xrefl W | exact ⟨rfl, xrefl W⟩) ?_
            try simp only [Act.put, List.setIfInBounds_toArray, List.set_cons_succ, List.set_cons_zero, List.nil_append, List.cons_append]
            intro w5 hb5 hM5
            have h57' : w5.ownsRow w.heap.size 3 1 (.slice a57 r.length c57) r.length ((natI r).map (Value.int .i64)) := hM5 2 (by decide)
            have hw5 := Lib.hid (xtrans hw4.out hb5)
            have hO5 : w5.ownsRow w.heap.size 3 1 (.slice a2 (out.length + 1) c2) (out ++ [kk]).length ((natI (out ++ [kk])).map (Value.int .i64)) := hO4.out.below hb5
            have hIL5 := hIL4.out.below hb5
            have hlt4 := hb5.size
            obtain ⟨v6, w6, hrun6, ho6, hg6, hv6⟩ := run_append_row_blk (P := Tryz.prog) w5 w.heap.size 42 42 3 i0 (.int .i64 0) 8 Tryz.underlying42 hi0 hz0 hz1 hz2 rfl (.slice a57 r.length c57) r.length _ h57' p q hIL5.nil .i64 (natI (nextOf bs kk)) hIL5.row (by rw [natI_len]; unfold maxLen; omega) (by rw [natI_len]; omega) hw5.out.size
            rw [natI_len] at hrun6 ho6
            have hO6 : OwnI w w6 (.slice a2 (out.length + 1) c2) (out ++ [kk]) := own_same hO5 fun g hg hl => hg6.block g hl fun e => by
              have h1 := h57 g e.symm
              have h2 := (hO4.out.lt g hg).2
              omega
            have hb6 := hw5.out.grown hg6 hw5.out.size (fun j hj => (h57'.lt j hj).1)
            have hN6 : OwnI w w6 v6 (r ++ nextOf bs kk) := by
              unfold OwnI
              rw [List.length_append, natI_app, List.map_append]
              exact ho6
            obtain ⟨a6, c6, rfl, hI6, -⟩ := hN6.at
            have hcap := own_cap hN6 rfl
            have hap6 : ∀ x k, a6 = some x → (Value.slice a2 (out.length + 1) c2).ownBlock = some k → x.block ≠ k := fun x k h1 h2 e => by
              have h3 := own_blk2 hN6 h1
              have h4 := (hO4.out.lt k h2).2
              rcases hv6 with h5 | h5
              · rw [h3] at h5
                have := h57 _ h5.symm
                omega
              · have := h5 _ h3
                omega
            refine Lib.wpList_append_run w5 rfl _ _ 42 42 rfl _ _ rfl rfl _ _ hrun6 ?_
            replace hap6 := Lib.hid hap6
            replace hI6 := Lib.hid hI6
            replace hO6 := Lib.hid hO6
            replace hb6 := Lib.hid hb6
            clear hN6 ho6 hg6 hv6 hrun6 hIL5 hO5 hb5 hM5 h57' h57
            have hmul : (r ++ nextOf bs kk).length + (bs.length - (out ++ [kk]).length) * (D + 1) < (r.length + 1) + (bs.length - out.length) * (D + 1) := by
              have := hmi.out
              unfold muW at this
              simpa using this
            have hnl6 : (r ++ nextOf bs kk).length ≤ 10101 := by
              have h1 := hG.out.1
              have h2 := hG.out.2.1
              unfold muW at h1
              rw [List.length_cons] at h1
              omega
            go_wp2
            go_roundw
            case rel => exact ⟨f, out ++ [kk], r ++ nextOf bs kk, a6, c6, by simp, hcap, hnl6, by simp; omega, hap6, hO6, hI6, Lib.hid ⟨by have := hmi.out; have := hG.out.1; omega, by have := hG.out.2.1; omega, List.nodup_append.2 ⟨hG.out.2.2.1, by simp, fun x hx y hy e => hcc.out (by simp at hy; rw [← hy, ← e]; exact hx)⟩, fun x hx => (by
              rcases List.mem_append.1 hx with e | e
              · exact hG.out.2.2.2.1 x e
              · rw [List.mem_singleton] at e; rw [e]; exact hkk), fun x hx => (by
              rcases List.mem_append.1 hx with e | e
              · exact hG.out.2.2.2.2.1 x (by simp [e])
              · exact g.nextOf e), hst.out⟩, hb6⟩
            case measure =>
              show (r.length + (nextOf bs kk).length) + (bs.length - (out.length + 1)) * (D + 1) < (r.length + 1) + (bs.length - out.length) * (D + 1)
              simpa using hmul
end Go.Proofs.YtijkdabmegbcjaaGreatDoor
