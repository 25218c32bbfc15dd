/- Texts of this claim, merged; no condition. -/
import Derived.Test.YtbicfaiabpcgfaaGreatDoorC06
import Derived.Test.YtbicfaiabpcgfaaGreatDoorC03
import Derived.Test.YtbicfaiabpcgfaaGreatDoorC01
import Derived.Deep.QuietTactic
import Derived.BigQuiet
import Derived.Deep.Cut
import Derived.Test.YtbicfaiabpcgfaaGreatDoorC05
import Derived.Test.YtbicfaiabpcgfaaGreatDoorC02
set_option linter.all false
namespace Go.Proofs.YtbicfaiabpcgfaaGreatDoor
open Go.RowKit Go.Shelf

def OwnU (w w' : World) (v : Value) (bs : List Nat) : Prop := w'.ownsRow w.heap.size 5 1 v bs.length ((natI bs).map (Value.int .u8))
theorem OwnU.nil (w w' : World) : OwnU w w' (.slice none 0 0) [] := ⟨rfl, .inl ⟨rfl, rfl⟩⟩
theorem unhexP_step {l : List UInt8} {bs : List Nat} {a b : UInt8} {r : List UInt8} (h : unhexP l = (unhexP (a :: b :: r)).map (bs ++ ·)) :
    (∀ x y, digO a = some x → digO b = some y → unhexP l = (unhexP r).map (bs ++ [16 * x + y] ++ ·)) ∧ ((digO a = none ∨ digO b = none) → unhexP l = none) := by
  constructor
  · intro x y hx hy
    rw [h, unhexP, hx, hy]
    cases unhexP r with
    | none => rfl
    | some z => simp
  · intro hn
    rw [h, unhexP]
    rcases hn with hn | hn
    · rw [hn]; rfl
    · rw [hn]; cases digO a <;> rfl
theorem unhexP_odd : ∀ (l : List UInt8), l.length % 2 = 1 → unhexP l = none
  | [], h => by simp at h
  | [_], _ => rfl
  | a :: b :: l, h => by
    rw [unhexP, unhexP_odd l (by simp at h; omega)]
    cases digO a <;> cases digO b <;> rfl
theorem drop_two {α : Type} (l : List α) (k : Nat) (h : k + 1 < l.length) : l.drop k = l[k]'(by omega) :: l[k + 1] :: l.drop (k + 2) := by
  rw [List.drop_eq_getElem_cons (by omega), List.drop_eq_getElem_cons (by omega)]
theorem run_at_str (l : List UInt8) (j : Nat) (h : j < l.length) (W : World) : (Instr.index 9 (.string ⟨l.toArray⟩) (.int .i64 j)).run Tryz.prog W = .ok (.int .u8 (l[j].toNat : Nat)) W := by
  rw [run_index_string W 9 ⟨l.toArray⟩ .i64 j Tryz.underlying9]
  have hs : (⟨l.toArray⟩ : ByteArray).size = l.length := by show l.toArray.size = _; simp
  rw [dif_pos ⟨by omega, by rw [hs]; omega⟩]
  rfl
theorem run_cut2 (l : List UInt8) (W : World) (h : 2 ≤ l.length) : (Instr.slice 9 (.string ⟨l.toArray⟩) none (some (.int .i64 2)) none).run Tryz.prog W = .ok (.string ⟨(l.take 2).toArray⟩) W := by
  have hs : (⟨l.toArray⟩ : ByteArray).size = l.length := by show l.toArray.size = _; simp
  rw [run_slice_string_h W 9 ⟨l.toArray⟩ Tryz.underlying9 .i64 2 (by omega) (by rw [hs]; omega)]
  refine congrArg (fun b : ByteArray => Result.ok (Value.string b) W) ?_
  apply ByteArray.ext
  simp
theorem digI_some {c : UInt8} {d : Nat} (h : digO c = some d) : digI c.toNat = d := by unfold digI; rw [show UInt8.ofNat c.toNat = c by simp, h]
theorem digI_none {c : UInt8} (h : digO c = none) : digI c.toNat = -1 := by unfold digI; rw [show UInt8.ofNat c.toNat = c by simp, h]
theorem dig_lt {c : UInt8} {d : Nat} (h : digO c = some d) : d < 16 := (dig_some h).1
set_option maxRecDepth 100000 in
set_option maxHeartbeats 8000000 in
theorem refUnhex_any (l : List UInt8) (w : World) (hl : l.length ≤ 100000) : Calls Tryz.prog 45 #[.string ⟨l.toArray⟩] w fun e w' => (∃ v, e = .returned (.tuple #[v, .bool (unhexN l).isSome]) ∧ OwnU w w' v ((unhexN l).getD [])) ∧ Below w.heap.size w w' := by
  obtain ⟨i0, hi0, hz0, hz1, hz2⟩ := info_parts info_u8
  have hsz : (⟨l.toArray⟩ : ByteArray).size = l.length := by show l.toArray.size = _; simp
  by_cases hbad : l.length < 2 ∨ ¬ (l.take 2 = [48, 120]) ∨ l.length % 2 = 1
  · have hn : unhexN l = none := by
      unfold unhexN
      split
      · rename_i r
        rcases hbad with h | h | h
        · simp at h; omega
        · exact absurd rfl h
        · exact unhexP_odd r (by simp at h; omega)
      · rfl
    rw [hn]
    have hnil : ∃ v, Ending.returned (.tuple #[Value.slice none 0 0, .bool false]) = .returned (.tuple #[v, .bool (none : Option (List Nat)).isSome]) ∧ OwnU w w v ((none : Option (List Nat)).getD []) := ⟨_, rfl, OwnU.nil w w⟩
    replace hnil := Lib.hid hnil
    by_cases h2 : l.length < 2
    · have h2I : (l.length : Int) < 2 := by omega
      clear hn hbad
      go_enter Tryz.func45, Tryz.ntmps45
      go_wp2
      go_ret2
      exact ⟨hnil.out, xrefl _⟩
    have h2I : ¬ (l.length : Int) < 2 := by omega
    have hsl := fun W => run_cut2 l W (by omega)
    by_cases h3 : l.take 2 = [48, 120]
    · have h3b : (l.take 2 == [48, 120]) = true := by rw [h3]; rfl
      have hodd : l.length % 2 = 1 := by
        rcases hbad with h | h | h
        · exact absurd h h2
        · exact absurd h3 h
        · exact h
      have htm : Int.tmod (l.length : Int) 2 = 1 := by rw [Int.tmod_eq_emod_of_nonneg (by omega)]; omega
      clear hn hbad h3 hodd
      generalize l.take 2 = l2 at *
      go_enter Tryz.func45, Tryz.ntmps45
      go_wp2
      go_ret2
      exact ⟨hnil.out, xrefl _⟩
    · have h3b : (l.take 2 == [48, 120]) = false := by simpa using h3
      clear hn hbad h3
      generalize l.take 2 = l2 at *
      go_enter Tryz.func45, Tryz.ntmps45
      go_wp2
      go_ret2
      exact ⟨hnil.out, xrefl _⟩
  · have h2I : ¬ (l.length : Int) < 2 := by omega
    have hsl := fun W => run_cut2 l W (by omega)
    have h3 : l.take 2 = [48, 120] := Classical.byContradiction fun h => hbad (.inr (.inl h))
    have hev : l.length % 2 = 0 := by omega
    have h3b : (l.take 2 == [48, 120]) = true := by rw [h3]; rfl
    have htm : Int.tmod (l.length : Int) 2 = 0 := by rw [Int.tmod_eq_emod_of_nonneg (by omega)]; omega
    have hU : unhexN l = unhexP (l.drop 2) := by
      have e : l = 48 :: 120 :: l.drop 2 := by
        have := List.take_append_drop 2 l
        rw [h3] at this
        exact this.symm
      rw [e]; rfl
    have hst0 : Hid (unhexP (l.drop 2) = (unhexP (l.drop 2)).map (([] : List Nat) ++ ·)) := Lib.hid (by cases unhexP (l.drop 2) <;> rfl)
    have hat := Lib.hid fun j h W => run_at_str l j h W
    have hdrop := Lib.hid fun k h => drop_two l k h
    rw [hU]
    have h00 := Lib.hid (OwnU.nil w w)
    replace hU := Lib.hid hU
    replace hev := Lib.hid hev
    have h22 : 2 ≤ l.length := by omega
    clear hbad h3
    generalize l.take 2 = l2 at *
    go_enter Tryz.func45, Tryz.ntmps45
    go_wp2
    go_loopw [4, 5] (fun v iv wx => ∃ (k : Nat) (bs : List Nat), iv = .int .i64 k ∧ 2 ≤ k ∧ k ≤ l.length ∧ k % 2 = 0 ∧ Hid (bs.length ≤ k) ∧ Hid (OwnU w wx v bs) ∧ Hid (unhexP (l.drop 2) = (unhexP (l.drop k)).map (bs ++ ·)) ∧ Hid (Below w.heap.size w wx)) (fun _ iv _ => l.length - (intOf iv).toNat)
    case atStart => exact ⟨2, [], rfl, by omega, h22, by omega, Lib.hid (by simp), h00, hst0, Lib.hid (xrefl w)⟩
    case round =>
      clear h00 hst0
      obtain ⟨k, bs, rfl, hk2, hkl, hke, hbl, hown, hst, hb⟩ := hrel
      by_cases hlt : k < l.length
      · have hlt1 : k + 1 < l.length := by have := hev.out; omega
        have hltI : (k : Int) < l.length := by omega
        have hcut := hdrop.out k hlt1
        have hs1 := hst.out
        rw [hcut] at hs1
        obtain ⟨hgo, hno⟩ := unhexP_step hs1
        have ha := fun W => hat.out k hlt W
        obtain ⟨k1, hk1⟩ : ∃ k1 : Nat, k1 = k + 1 := ⟨_, rfl⟩
        have hb1 : ∀ W, (Instr.index 9 (.string ⟨l.toArray⟩) (.int .i64 k1)).run Tryz.prog W = .ok (.int .u8 (l[k + 1].toNat : Nat)) W := fun W => by subst hk1; exact hat.out (k + 1) hlt1 W
        have hwk : IntKind.i64.wrap ((k : Int) + 1) = (k1 : Int) := by simp [IntKind.wrap, IntKind.bits, IntKind.signed]; omega
        clear hs1 hcut hk1
        have da : ∀ d, digO l[k] = some d → digI l[k].toNat = d := fun d h => digI_some h
        have db : ∀ d, digO l[k + 1] = some d → digI l[k + 1].toNat = d := fun d h => digI_some h
        have na : digO l[k] = none → digI l[k].toNat = -1 := fun h => digI_none h
        have nb : digO l[k + 1] = none → digI l[k + 1].toNat = -1 := fun h => digI_none h
        have la : l[k].toNat < 256 := UInt8.toNat_lt l[k]
        have lb : l[k + 1].toNat < 256 := UInt8.toNat_lt l[k + 1]
        generalize l[k] = ca at *
        generalize l[k + 1] = cb at *
        generalize ca.toNat = xa at *
        generalize cb.toNat = xb at *
        have hdg := Lib.hid fun (c : Nat) (hc : c < 256) W => refDigit_any c W hc
        replace hgo := Lib.hid hgo
        replace hno := Lib.hid hno
        cases hqa : digO ca with
        | none =>
          have ea := na hqa
          have hq := Lib.hid (hno.out (.inl hqa))
          go_wp2
          go_quiet (first | (go_at_call 64; refine Calls.quiet_of_same (hdg.out _ (by assumption) _)))
          go_wp2
          go_ret2
          rw [hq.out]
          exact ⟨⟨_, rfl, OwnU.nil _ _⟩, xtrans hb.out ⟨rfl, rfl, rfl, Nat.le_refl _, fun _ _ => rfl⟩⟩
        | some x =>
          have ea := da _ hqa
          cases hqb : digO cb with
          | none =>
            have eb := nb hqb
            have hx0 : ¬ (x : Int) < 0 := by omega
            have hq := Lib.hid (hno.out (.inr hqb))
            go_wp2
            go_quiet (first | (go_at_call 64; refine Calls.quiet_of_same (hdg.out _ (by assumption) _)))
            go_wp2
            go_ret2
            rw [hq.out]
            exact ⟨⟨_, rfl, OwnU.nil _ _⟩, xtrans hb.out ⟨rfl, rfl, rfl, Nat.le_refl _, fun _ _ => rfl⟩⟩
          | some y =>
            have eb := db _ hqb
            have hx16 := dig_lt hqa
            have hy16 := dig_lt hqb
            have hx0 : ¬ (x : Int) < 0 := by omega
            have hy0 : ¬ (y : Int) < 0 := by omega
            obtain ⟨z, hz⟩ : ∃ z : Nat, z = 16 * x + y := ⟨_, rfl⟩
            have hzI : 16 * (x : Int) + (y : Int) = (z : Int) := by omega
            have hz8 : IntKind.u8.wrap (z : Int) = (z : Int) := by simp [IntKind.wrap, IntKind.bits, IntKind.signed]; omega
            have hs2 := hgo.out x y hqa hqb
            rw [← hz] at hs2
            have hbl2 := hbl.out
            replace hs2 := Lib.hid hs2
            clear hz
            go_wp2
            go_quiet (first | (go_at_call 64; refine Calls.quiet_of_same (hdg.out _ (by assumption) _)))
            have hown9 : Hid (OwnU w (wr.drewN nq) u4 bs) := Lib.hid hown.out
            have hb9 : Hid (Below w.heap.size w (wr.drewN nq)) := Lib.hid (xtrans hb.out ⟨rfl, rfl, rfl, Nat.le_refl _, fun _ _ => rfl⟩)
            generalize wr.drewN nq = w9 at *
            have hsb : w.heap.size ≤ (w9.alloc (.cells #[.int .u8 (z : Int)] 5)).heap.size := by rw [World.size_alloc]; have := hb9.out.size; omega
            go_wp2_with (at_builtin; refine wpList_append_row (w9.alloc (.cells #[.int .u8 (z : Int)] 5)) rfl _ _ 32 rfl w.heap.size 5 i0 (.int .u8 0) 1 Tryz.underlying32 hi0 hz0 hz1 hz2 rfl _ bs.length _ rfl (hown9.out.alloc _) (some ⟨w9.heap.size, 0, none⟩) 1 .u8 [(z : Int)] rfl (by simp) (rowAt_one w9 5 (z : Int)) (by unfold maxLen; simp; omega) (by simp; omega) hsb ?_; intro v3 w3 ho3 hg3; have hb3 := Lib.hid ((xalloc hb9.out _).grown hg3 hsb (fun j hj => (hown9.out.lt j hj).1)); replace ho3 := Lib.hid ho3; clear hg3)
            refine ⟨⟨k + 2, bs ++ [z], by go_num, by omega, by omega, by omega, Lib.hid (by simp; omega), Lib.hid ?_, hs2, hb3⟩, by simp [intOf] <;> omega⟩
            unfold OwnU
            rw [List.length_append, natI_app, List.map_append]
            exact ho3.out
      · obtain rfl : k = l.length := by omega
        have hfin := hst.out
        rw [List.drop_length, unhexP] at hfin
        have hq : unhexP (l.drop 2) = some bs := by rw [hfin]; simp
        clear hfin hst
        replace hq := Lib.hid hq
        go_wp2
        go_ret2
        rw [hq.out]
        exact ⟨⟨_, rfl, hown.out⟩, hb.out⟩
end Go.Proofs.YtbicfaiabpcgfaaGreatDoor
namespace Go.Proofs.YtbicfaiabpcgfaaGreatDoor
open Go.RowKit

theorem run_append_own_blkV {P : Program} (w : World) (base : Nat) (t ty e : TypeId) (i : TypeInfo) (z : Value) (size bytes : Nat) (ht : P.underlying t = some (.slice e)) (hi : P.info? e = some i) (hz : i.zero = some z)
    (hsize : i.size = size) (hby : i.bytes = bytes) (hzs : z.cells.size = size) (hsz : 0 < size) (v : Value) (n : Nat) (xs : List Value) (hown : w.ownsRow base e size v n xs)
    (a : Addr) (m c : Nat) (news : List Value) (hl : news.length = m * size) (hnews : ∀ j u, news[j]? = some u → w.cell? (a.add j) = some u) (h1 : ∀ u ∈ news, u.oneCell' = true)
    (h63 : n + m ≤ maxLen) (hbytes : (n + m) * bytes ≤ 140737488355328) (hbase : base ≤ w.heap.size) :
    ∃ v' w', (Builtin.append_ #[t, t] ty #[v, .slice (some a) m c]).run P w = .ok v' w' ∧ w'.ownsRow base e size v' (n + m) (xs ++ news) ∧ w.grownBy w' v.ownBlock ∧
      (v'.ownBlock = v.ownBlock ∨ ∀ k, v'.ownBlock = some k → w.heap.size ≤ k) := by
  obtain ⟨v', w', hr, ho, hg, -⟩ := run_append_own (P := P) w base t ty e i z size bytes ht hi hz hsize hby hzs hsz v n xs hown a m c news hl hnews h1 h63 hbytes hbase
  refine ⟨v', w', hr, ho, hg, ?_⟩
  rcases hown.2 with ⟨rfl, rfl⟩ | ⟨g, cap, cur, rfl, hbg, hgg, hnc, hcm, hcs, htake⟩
  · obtain ⟨v2, w2, hr2, ho2, -, -⟩ := run_append_own (P := P) w w.heap.size t ty e i z size bytes ht hi hz hsize hby hzs hsz (.slice none 0 0) 0 [] (World.ownsRow_nil _ _ _ _) a m c news hl hnews h1 (by simpa using h63) (by simpa using hbytes) (Nat.le_refl _)
    rw [hr] at hr2
    obtain ⟨rfl, rfl⟩ : v' = v2 ∧ w' = w2 := by injection hr2; exact ⟨by assumption, by assumption⟩
    exact .inr fun k hk => (ho2.lt k hk).1
  · by_cases hroom : n + m ≤ cap
    · have hmul : (n + m) * size ≤ cap * size := Nat.mul_le_mul_right _ hroom
      rw [Nat.add_mul] at hmul
      have hcells : ∀ j, j < cur.size → w.cell? ⟨g, j, none⟩ = cur[j]? := fun j _ => by rw [cell_of_row w g j cur e (0, 0) hgg]
      have hr2 := run_append_room_cells (P := P) w t ty e i ht hi g 0 n cap a m c news (by rw [hsize, hl]) hnews h1 hroom (fun j hj => by
        have hlt : 0 + n * i.size + j < cur.size := by rw [hsize, hcs]; omega
        rw [hcells _ hlt, Array.getElem?_eq_getElem hlt]; rfl) (fun j hj => frozen_of_row w g _ cur e hgg)
      rw [hr] at hr2
      obtain ⟨rfl, rfl⟩ : v' = .slice (some ⟨g, 0, none⟩) (n + m) cap ∧ w' = _ := by injection hr2; exact ⟨by assumption, by assumption⟩
      exact .inl rfl
    · obtain ⟨v2, w2, hr2, ho2, -⟩ := run_append_arg_grows (P := P) w t ty e i z size bytes ht hi hz hsize hby hzs hsz ⟨g, 0, none⟩ n cap xs hown.1 (fun j u hj => hown.cells (g := g) rfl j u hj) a m c news hl hnews (by omega) h63 hbytes
      rw [hr] at hr2
      obtain ⟨rfl, rfl⟩ : v' = v2 ∧ w' = w2 := by injection hr2; exact ⟨by assumption, by assumption⟩
      exact .inr fun k hk => (ho2.lt k hk).1

theorem wpListIn_append_blkV {F : Fence} {N : Nat} {P : Program} (w : World) {ops : Array Oper} {rest : List Oper} {o : Oper} {ac : Act} {Q : Exit → Act → World → Prop} (hgd : o.guard = none) (s x : Operand) (t : TypeId)
    (hop : o.op = .call { callee := .builtin .append, args := #[s, x], argTypes := #[t, t] })
    (base : Nat) (e : TypeId) (i : TypeInfo) (z : Value) (size bytes : Nat) (ht : P.underlying t = some (.slice e)) (hi : P.info? e = some i) (hz : i.zero = some z)
    (hsize : i.size = size) (hby : i.bytes = bytes) (hzs : z.cells.size = size) (hsz : 0 < size) (v : Value) (n : Nat) (xs : List Value) (hs : ac.eval s = v) (hown : w.ownsRow base e size v n xs)
    (a : Addr) (m c : Nat) (news : List Value) (hx : ac.eval x = .slice (some a) m c) (hl : news.length = m * size) (hnews : ∀ j u, news[j]? = some u → w.cell? (a.add j) = some u) (h1 : ∀ u ∈ news, u.oneCell' = true)
    (h63 : n + m ≤ maxLen) (hbytes : (n + m) * bytes ≤ 140737488355328) (hbase : base ≤ w.heap.size)
    (hK : ∀ v' w', w'.ownsRow base e size v' (n + m) (xs ++ news) → w.grownBy w' v.ownBlock → (v'.ownBlock = v.ownBlock ∨ ∀ k, v'.ownBlock = some k → w.heap.size ≤ k) → wpListIn F N P ops Q rest (ac.put o.dst v') w') : wpListIn F N P ops Q (o :: rest) ac w := by
  refine wpListIn_plain hgd fun K hK' => ?_
  obtain ⟨v', w', hrun, r1, r2, r3⟩ := run_append_own_blkV (P := P) w base t o.type e i z size bytes ht hi hz hsize hby hzs hsz v n xs hown a m c news hl hnews h1 h63 hbytes hbase
  unfold Oper.wpIn
  refine ⟨?_, ?_⟩
  · simp [Oper.about, hop, resolve, Target.leads, Sem.run_pure]
  · rw [Oper.semAt_plain F _ _ (by rw [hop]; intro c hc'; cases hc')]
    simp [execOp, hop, resolve, invoke, builtin, hs, hx, hrun, Result.andThen]
    exact hK' _ _ (hK v' w' r1 r2 r3)
/-- The same, in a walk without a fence. -/
theorem wpList_append_blkV {P : Program} (w : World) {ops : Array Oper} {rest : List Oper} {o : Oper} {ac : Act} {Q : Exit → Act → World → Prop} (hgd : o.guard = none) (s x : Operand) (t : TypeId)
    (ho : o.op = .call { callee := .builtin .append, args := #[s, x], argTypes := #[t, t] })
    (base : Nat) (e : TypeId) (i : TypeInfo) (z : Value) (size bytes : Nat) (ht : P.underlying t = some (.slice e)) (hi : P.info? e = some i) (hz : i.zero = some z)
    (hsize : i.size = size) (hby : i.bytes = bytes) (hzs : z.cells.size = size) (hsz : 0 < size) (v : Value) (n : Nat) (xs : List Value) (hs : ac.eval s = v) (hown : w.ownsRow base e size v n xs)
    (a : Addr) (m c : Nat) (news : List Value) (hx : ac.eval x = .slice (some a) m c) (hl : news.length = m * size) (hnews : ∀ j u, news[j]? = some u → w.cell? (a.add j) = some u) (h1 : ∀ u ∈ news, u.oneCell' = true)
    (h63 : n + m ≤ maxLen) (hbytes : (n + m) * bytes ≤ 140737488355328) (hbase : base ≤ w.heap.size)
    (h : ∀ v' w', w'.ownsRow base e size v' (n + m) (xs ++ news) → w.grownBy w' v.ownBlock → (v'.ownBlock = v.ownBlock ∨ ∀ k, v'.ownBlock = some k → w.heap.size ≤ k) → wpList P ops Q rest (ac.put o.dst v') w') : wpList P ops Q (o :: rest) ac w := by
  obtain ⟨v', w', h1, h2, h3, h4⟩ := run_append_own_blkV (P := P) w base t o.type e i z size bytes ht hi hz hsize hby hzs hsz v n xs hown a m c news hl hnews h1 h63 hbytes hbase
  exact Lib.wpList_append_run w hgd s x t t ho _ _ hs hx v' w' h1 (h v' w' h2 h3 h4)

theorem flat_get {α β : Type} (k : Nat) (g : α → List β) (hg : ∀ x, (g x).length = k) : ∀ (l : List α) (i j : Nat) (h : i < l.length), j < k → (l.flatMap g)[i * k + j]? = (g l[i])[j]?
  | x :: l, 0, j, _, hj => by
    rw [List.flatMap_cons, Nat.zero_mul, Nat.zero_add, List.getElem?_append_left (by rw [hg]; exact hj)]; rfl
  | x :: l, i + 1, j, h, hj => by
    rw [List.flatMap_cons, List.getElem?_append_right (by rw [hg, Nat.add_mul]; omega), hg, show (i + 1) * k + j - k = i * k + j by rw [Nat.add_mul]; omega]
    exact flat_get k g hg l i j (by simpa using h) hj
end Go.Proofs.YtbicfaiabpcgfaaGreatDoor
namespace Go.Proofs.YtbicfaiabpcgfaaGreatDoor
open Go.RowKit Go.Shelf

def sV (w : List UInt8) : Value := .string ⟨w.toArray⟩
def OwnT (w w' : World) (v : Value) (ws : List (List UInt8)) : Prop := w'.ownsRow w.heap.size 9 1 v ws.length (ws.map sV)
theorem OwnT.nil (w w' : World) : OwnT w w' (.slice none 0 0) [] := ⟨rfl, .inl ⟨rfl, rfl⟩⟩
theorem info_str : (Tryz.prog.info? 9).map (fun i => (i.zero, i.size, i.bytes)) = some (some (.string ⟨#[]⟩), 1, 16) := by kernel_rfl
def glue (cur : List UInt8) : List (List UInt8) → List (List UInt8)
  | [] => [cur]
  | w :: r => (cur ++ w) :: r
theorem glue_nil {S : List (List UInt8)} (h : S ≠ []) : glue [] S = S := by cases S with
  | nil => exact absurd rfl h
  | cons w r => rfl
theorem glue_in (c x : UInt8) (cur t : List UInt8) (h : x ≠ c) : glue cur (splS c (x :: t)) = glue (cur ++ [x]) (splS c t) := by
  rw [splS, if_neg h]
  cases hq : splS c t with
  | nil => exact absurd hq (spl_ne c t)
  | cons w r => simp [glue]
theorem glue_at (c : UInt8) (cur t : List UInt8) : glue cur (splS c (c :: t)) = [cur] ++ glue [] (splS c t) := by
  rw [splS, if_pos rfl, glue_nil (spl_ne c t)]
  simp [glue]
theorem run_cut1 (l : List UInt8) (k : Nat) (h : k < l.length) (W : World) : (Instr.slice 9 (.string ⟨l.toArray⟩) (some (.int .i64 k)) (some (.int .i64 ((k : Int) + 1))) none).run Tryz.prog W = .ok (.string ⟨#[l[k]]⟩) W := by
  have hs : (⟨l.toArray⟩ : ByteArray).size = l.length := by show l.toArray.size = _; simp
  rw [run_slice_string (P := Tryz.prog) W 9 ⟨l.toArray⟩ .i64 .i64 (k : Int) ((k : Int) + 1) Tryz.underlying9 (by omega) (by omega) (by rw [hs]; omega)]
  refine congrArg (fun b : ByteArray => Result.ok (Value.string b) W) ?_
  apply ByteArray.ext
  apply Array.ext'
  have e1 : ((k : Int) + 1).toNat = k + 1 := by omega
  have e2 : (k : Int).toNat = k := by omega
  rw [e1, e2]
  simp
  rw [List.drop_eq_getElem_cons h]
  rfl
theorem str_news (w : World) (T : TypeId) (x : Value) : ∀ j u, [x][j]? = some u → (w.alloc (.cells #[x] T)).cell? ((⟨w.heap.size, 0, none⟩ : Addr).add j) = some u := by
  intro j u hj
  match j, hj with
  | 0, hj => simp at hj; subst hj; simp [Addr.add]
set_option maxRecDepth 100000 in
set_option maxHeartbeats 8000000 in
theorem refSplit_any (c : UInt8) (l : List UInt8) (w : World) (hl : l.length ≤ 100000) : Calls Tryz.prog 44 #[.string ⟨l.toArray⟩, .int .u8 (c.toNat : Nat)] w fun e w' => (∃ v, e = .returned v ∧ OwnT w w' v (splS c l)) ∧ Below w.heap.size w w' := by
  obtain ⟨i0, hi0, hz0, hz1, hz2⟩ := info_parts info_str
  have hsz : (⟨l.toArray⟩ : ByteArray).size = l.length := by show l.toArray.size = _; simp
  have hst0 : Hid ((0 ≤ l.length → splS c l = [] ++ glue [] (splS c (l.drop 0))) ∧ (0 = l.length + 1 → splS c l = [])) := Lib.hid ⟨fun _ => by rw [List.drop_zero, glue_nil (spl_ne c l)]; rfl, fun h => by omega⟩
  have h00 := Lib.hid (OwnT.nil w w)
  go_enter Tryz.func44, Tryz.ntmps44
  go_wp2
  go_loopw [5, 6, 7] (fun v pv iv wx => ∃ (k : Nat) (ws : List (List UInt8)) (cur : List UInt8), pv = .string ⟨cur.toArray⟩ ∧ iv = .int .i64 k ∧ k ≤ l.length + 1 ∧ Hid (ws.length ≤ k ∧ cur.length ≤ k) ∧ Hid (OwnT w wx v ws) ∧ Hid ((k ≤ l.length → splS c l = ws ++ glue cur (splS c (l.drop k))) ∧ (k = l.length + 1 → splS c l = ws)) ∧ Hid (Below w.heap.size w wx)) (fun _ _ iv _ => l.length + 1 - (intOf iv).toNat)
  case atStart => exact ⟨0, [], [], rfl, rfl, by omega, Lib.hid ⟨by simp, by simp⟩, h00, hst0, Lib.hid (xrefl w)⟩
  case round =>
    clear h00 hst0
    obtain ⟨k, ws, cur, rfl, rfl, hk, hwl, hown, hst, hb⟩ := hrel
    obtain ⟨hwl2, hcl2⟩ := hwl.out
    have hsb : w.heap.size ≤ (wr.alloc (.cells #[.string ⟨cur.toArray⟩] 9)).heap.size := by rw [World.size_alloc]; have := hb.out.size; omega
    by_cases hlt : k < l.length
    · have hltI : (k : Int) < l.length := by omega
      have hleI : (k : Int) ≤ l.length := by omega
      have hix := fun W => run_at_str l k hlt W
      have hcut := fun W => run_cut1 l k hlt W
      have hs1 := hst.out.1 (by omega)
      rw [List.drop_eq_getElem_cons hlt] at hs1
      generalize l[k] = x at *
      by_cases hx : x = c
      · subst hx
        rw [glue_at, ← List.append_assoc] at hs1
        replace hs1 := Lib.hid hs1
        clear hcut hst
        go_wp2_with (at_builtin; refine wpList_append_blkV (wr.alloc (.cells #[.string ⟨cur.toArray⟩] 9)) rfl _ _ 71 rfl w.heap.size 9 i0 (.string ⟨#[]⟩) 1 16 Tryz.underlying71 hi0 hz0 hz1 hz2 rfl (by decide) _ ws.length (ws.map sV) rfl (hown.out.alloc _) ⟨wr.heap.size, 0, none⟩ 1 1 [.string ⟨cur.toArray⟩] rfl rfl (str_news wr 9 _) (by simp [Value.oneCell']) (by unfold maxLen; omega) (by omega) hsb ?_; intro v3 w3 ho3 hg3 _; have hb3 := Lib.hid ((xalloc hb.out _).grown hg3 hsb (fun j hj => (hown.out.lt j hj).1)); replace ho3 := Lib.hid ho3; clear hg3)
        refine ⟨⟨k + 1, ws ++ [cur], [], rfl, by go_num, by omega, Lib.hid ⟨by simp; omega, by simp⟩, Lib.hid ?_, Lib.hid ⟨fun _ => hs1.out, fun h => by omega⟩, hb3⟩, by simp [intOf] <;> omega⟩
        unfold OwnT
        rw [List.length_append, List.map_append]
        exact ho3.out
      · rw [glue_in c x cur _ hx] at hs1
        have hne : ((x.toNat : Int) == (c.toNat : Int)) = false := by
          rw [beq_eq_false_iff_ne]; intro e; exact hx (UInt8.toNat_inj.1 (by omega))
        have hne2 : ¬ (x.toNat : Int) = (c.toNat : Int) := fun e => hx (UInt8.toNat_inj.1 (by omega))
        obtain ⟨cur2, hc2⟩ : ∃ cur2, cur2 = cur ++ [x] := ⟨_, rfl⟩
        have e2 : (⟨cur.toArray⟩ : ByteArray) ++ ⟨#[x]⟩ = ⟨cur2.toArray⟩ := by rw [hc2]; exact str_add cur [x]
        have hc3 : cur2.length ≤ k + 1 := by rw [hc2]; simp; omega
        rw [← hc2] at hs1
        generalize x.toNat = xn at *
        replace hs1 := Lib.hid hs1
        clear hst hc2
        go_wp2
        refine ⟨⟨k + 1, ws, cur2, rfl, by go_num, by omega, Lib.hid ⟨by omega, by omega⟩, hown, Lib.hid ⟨fun _ => hs1.out, fun h => by omega⟩, hb⟩, by simp [intOf] <;> omega⟩
    · by_cases hkl : k = l.length
      · subst hkl
        have hs1 := hst.out.1 (by omega)
        rw [List.drop_length, splS, glue, List.append_nil] at hs1
        replace hs1 := Lib.hid hs1
        clear hst
        go_wp2_with (at_builtin; refine wpList_append_blkV (wr.alloc (.cells #[.string ⟨cur.toArray⟩] 9)) rfl _ _ 71 rfl w.heap.size 9 i0 (.string ⟨#[]⟩) 1 16 Tryz.underlying71 hi0 hz0 hz1 hz2 rfl (by decide) _ ws.length (ws.map sV) rfl (hown.out.alloc _) ⟨wr.heap.size, 0, none⟩ 1 1 [.string ⟨cur.toArray⟩] rfl rfl (str_news wr 9 _) (by simp [Value.oneCell']) (by unfold maxLen; omega) (by omega) hsb ?_; intro v3 w3 ho3 hg3 _; have hb3 := Lib.hid ((xalloc hb.out _).grown hg3 hsb (fun j hj => (hown.out.lt j hj).1)); replace ho3 := Lib.hid ho3; clear hg3)
        refine ⟨⟨l.length + 1, ws ++ [cur], [], rfl, by go_num, by omega, Lib.hid ⟨by simp; omega, by simp⟩, Lib.hid ?_, Lib.hid ⟨fun h => by omega, fun _ => hs1.out⟩, hb3⟩, by simp [intOf] <;> omega⟩
        unfold OwnT
        rw [List.length_append, List.map_append]
        exact ho3.out
      · have hgt : (l.length : Int) < k := by omega
        have hq := hst.out.2 (by omega)
        clear hst
        replace hq := Lib.hid hq
        go_wp2
        go_ret
        rw [hq.out]
        exact ⟨⟨_, rfl, hown.out⟩, hb.out⟩
end Go.Proofs.YtbicfaiabpcgfaaGreatDoor
namespace Go.Proofs.YtbicfaiabpcgfaaGreatDoor
open Go.RowKit Go.Shelf

def txK (cs : List Nat) (k : Nat) : List UInt8 := Lib.join (((opsL cs).take k).flatMap (opW cs)) [32]
theorem txK_all (cs : List Nat) : txK cs (opsL cs).length = textC cs := by unfold txK textC wordsN; rw [List.take_length]
theorem txK_len {cs : List Nat} (h : ∀ b ∈ cs, b < 256) (hl : cs.length ≤ 1000) (k : Nat) : (txK cs k).length ≤ 140000 := by
  unfold txK
  have h1 := join_len 66 [32] (((opsL cs).take k).flatMap (opW cs)) (fun w hw => by
    obtain ⟨i, _, hi⟩ := List.mem_flatMap.1 hw
    exact (opW_good h i w hi).2)
  have h2 : (((opsL cs).take k).flatMap (opW cs)).length ≤ 2 * ((opsL cs).take k).length := by
    generalize (opsL cs).take k = l
    induction l with
    | nil => simp
    | cons a l ih => rw [List.flatMap_cons, List.length_append, List.length_cons]; have := (opW_len cs a).1; omega
  have h3 : ((opsL cs).take k).length ≤ 1000 := by rw [List.length_take]; have := opsL_len cs; omega
  simp only [List.length_singleton] at h1
  omega
end Go.Proofs.YtbicfaiabpcgfaaGreatDoor
