/- Texts of this claim, merged; no condition. -/
import Derived.Test.YtbicfaiabpcgfaaGreatDoorC03
import Derived.Test.YtbicfaiabpcgfaaGreatDoorC01
import Derived.Test.YtbicfaiabpcgfaaGreatDoorC07
import Derived.Deep.QuietTactic
import Derived.BigQuiet
import Derived.Deep.Cut
import Derived.Test.YtbicfaiabpcgfaaGreatDoorC05
import Derived.Test.YtbicfaiabpcgfaaGreatDoorC02
set_option linter.all false
namespace Go.Proofs.YtbicfaiabpcgfaaGreatDoor
open Go.RowKit

theorem run_append_own_blkV {P : Program} (w : World) (base : Nat) (t ty e : TypeId) (i : TypeInfo) (z : Value) (size bytes : Nat) (ht : P.underlying t = some (.slice e)) (hi : P.info? e = some i) (hz : i.zero = some z)
    (hsize : i.size = size) (hby : i.bytes = bytes) (hzs : z.cells.size = size) (hsz : 0 < size) (v : Value) (n : Nat) (xs : List Value) (hown : w.ownsRow base e size v n xs)
    (a : Addr) (m c : Nat) (news : List Value) (hl : news.length = m * size) (hnews : ∀ j u, news[j]? = some u → w.cell? (a.add j) = some u) (h1 : ∀ u ∈ news, u.oneCell' = true)
    (h63 : n + m ≤ maxLen) (hbytes : (n + m) * bytes ≤ 140737488355328) (hbase : base ≤ w.heap.size) :
    ∃ v' w', (Builtin.append_ #[t, t] ty #[v, .slice (some a) m c]).run P w = .ok v' w' ∧ w'.ownsRow base e size v' (n + m) (xs ++ news) ∧ w.grownBy w' v.ownBlock ∧
      (v'.ownBlock = v.ownBlock ∨ ∀ k, v'.ownBlock = some k → w.heap.size ≤ k) := by
  obtain ⟨v', w', hr, ho, hg, -⟩ := run_append_own (P := P) w base t ty e i z size bytes ht hi hz hsize hby hzs hsz v n xs hown a m c news hl hnews h1 h63 hbytes hbase
  refine ⟨v', w', hr, ho, hg, ?_⟩
  rcases hown.2 with ⟨rfl, rfl⟩ | ⟨g, cap, cur, rfl, hbg, hgg, hnc, hcm, hcs, htake⟩
  · obtain ⟨v2, w2, hr2, ho2, -, -⟩ := run_append_own (P := P) w w.heap.size t ty e i z size bytes ht hi hz hsize hby hzs hsz (.slice none 0 0) 0 [] (World.ownsRow_nil _ _ _ _) a m c news hl hnews h1 (by simpa using h63) (by simpa using hbytes) (Nat.le_refl _)
    rw [hr] at hr2
    obtain ⟨rfl, rfl⟩ : v' = v2 ∧ w' = w2 := by injection hr2; exact ⟨by assumption, by assumption⟩
    exact .inr fun k hk => (ho2.lt k hk).1
  · by_cases hroom : n + m ≤ cap
    · have hmul : (n + m) * size ≤ cap * size := Nat.mul_le_mul_right _ hroom
      rw [Nat.add_mul] at hmul
      have hcells : ∀ j, j < cur.size → w.cell? ⟨g, j, none⟩ = cur[j]? := fun j _ => by rw [cell_of_row w g j cur e (0, 0) hgg]
      have hr2 := run_append_room_cells (P := P) w t ty e i ht hi g 0 n cap a m c news (by rw [hsize, hl]) hnews h1 hroom (fun j hj => by
        have hlt : 0 + n * i.size + j < cur.size := by rw [hsize, hcs]; omega
        rw [hcells _ hlt, Array.getElem?_eq_getElem hlt]; rfl) (fun j hj => frozen_of_row w g _ cur e hgg)
      rw [hr] at hr2
      obtain ⟨rfl, rfl⟩ : v' = .slice (some ⟨g, 0, none⟩) (n + m) cap ∧ w' = _ := by injection hr2; exact ⟨by assumption, by assumption⟩
      exact .inl rfl
    · obtain ⟨v2, w2, hr2, ho2, -⟩ := run_append_arg_grows (P := P) w t ty e i z size bytes ht hi hz hsize hby hzs hsz ⟨g, 0, none⟩ n cap xs hown.1 (fun j u hj => hown.cells (g := g) rfl j u hj) a m c news hl hnews (by omega) h63 hbytes
      rw [hr] at hr2
      obtain ⟨rfl, rfl⟩ : v' = v2 ∧ w' = w2 := by injection hr2; exact ⟨by assumption, by assumption⟩
      exact .inr fun k hk => (ho2.lt k hk).1

theorem wpListIn_append_blkV {F : Fence} {N : Nat} {P : Program} (w : World) {ops : Array Oper} {rest : List Oper} {o : Oper} {ac : Act} {Q : Exit → Act → World → Prop} (hgd : o.guard = none) (s x : Operand) (t : TypeId)
    (hop : o.op = .call { callee := .builtin .append, args := #[s, x], argTypes := #[t, t] })
    (base : Nat) (e : TypeId) (i : TypeInfo) (z : Value) (size bytes : Nat) (ht : P.underlying t = some (.slice e)) (hi : P.info? e = some i) (hz : i.zero = some z)
    (hsize : i.size = size) (hby : i.bytes = bytes) (hzs : z.cells.size = size) (hsz : 0 < size) (v : Value) (n : Nat) (xs : List Value) (hs : ac.eval s = v) (hown : w.ownsRow base e size v n xs)
    (a : Addr) (m c : Nat) (news : List Value) (hx : ac.eval x = .slice (some a) m c) (hl : news.length = m * size) (hnews : ∀ j u, news[j]? = some u → w.cell? (a.add j) = some u) (h1 : ∀ u ∈ news, u.oneCell' = true)
    (h63 : n + m ≤ maxLen) (hbytes : (n + m) * bytes ≤ 140737488355328) (hbase : base ≤ w.heap.size)
    (hK : ∀ v' w', w'.ownsRow base e size v' (n + m) (xs ++ news) → w.grownBy w' v.ownBlock → (v'.ownBlock = v.ownBlock ∨ ∀ k, v'.ownBlock = some k → w.heap.size ≤ k) → wpListIn F N P ops Q rest (ac.put o.dst v') w') : wpListIn F N P ops Q (o :: rest) ac w := by
  refine wpListIn_plain hgd fun K hK' => ?_
  obtain ⟨v', w', hrun, r1, r2, r3⟩ := run_append_own_blkV (P := P) w base t o.type e i z size bytes ht hi hz hsize hby hzs hsz v n xs hown a m c news hl hnews h1 h63 hbytes hbase
  unfold Oper.wpIn
  refine ⟨?_, ?_⟩
  · simp [Oper.about, hop, resolve, Target.leads, Sem.run_pure]
  · rw [Oper.semAt_plain F _ _ (by rw [hop]; intro c hc'; cases hc')]
    simp [execOp, hop, resolve, invoke, builtin, hs, hx, hrun, Result.andThen]
    exact hK' _ _ (hK v' w' r1 r2 r3)
/-- The same, in a walk without a fence. -/
theorem wpList_append_blkV {P : Program} (w : World) {ops : Array Oper} {rest : List Oper} {o : Oper} {ac : Act} {Q : Exit → Act → World → Prop} (hgd : o.guard = none) (s x : Operand) (t : TypeId)
    (ho : o.op = .call { callee := .builtin .append, args := #[s, x], argTypes := #[t, t] })
    (base : Nat) (e : TypeId) (i : TypeInfo) (z : Value) (size bytes : Nat) (ht : P.underlying t = some (.slice e)) (hi : P.info? e = some i) (hz : i.zero = some z)
    (hsize : i.size = size) (hby : i.bytes = bytes) (hzs : z.cells.size = size) (hsz : 0 < size) (v : Value) (n : Nat) (xs : List Value) (hs : ac.eval s = v) (hown : w.ownsRow base e size v n xs)
    (a : Addr) (m c : Nat) (news : List Value) (hx : ac.eval x = .slice (some a) m c) (hl : news.length = m * size) (hnews : ∀ j u, news[j]? = some u → w.cell? (a.add j) = some u) (h1 : ∀ u ∈ news, u.oneCell' = true)
    (h63 : n + m ≤ maxLen) (hbytes : (n + m) * bytes ≤ 140737488355328) (hbase : base ≤ w.heap.size)
    (h : ∀ v' w', w'.ownsRow base e size v' (n + m) (xs ++ news) → w.grownBy w' v.ownBlock → (v'.ownBlock = v.ownBlock ∨ ∀ k, v'.ownBlock = some k → w.heap.size ≤ k) → wpList P ops Q rest (ac.put o.dst v') w') : wpList P ops Q (o :: rest) ac w := by
  obtain ⟨v', w', h1, h2, h3, h4⟩ := run_append_own_blkV (P := P) w base t o.type e i z size bytes ht hi hz hsize hby hzs hsz v n xs hown a m c news hl hnews h1 h63 hbytes hbase
  exact Lib.wpList_append_run w hgd s x t t ho _ _ hs hx v' w' h1 (h v' w' h2 h3 h4)

theorem flat_get {α β : Type} (k : Nat) (g : α → List β) (hg : ∀ x, (g x).length = k) : ∀ (l : List α) (i j : Nat) (h : i < l.length), j < k → (l.flatMap g)[i * k + j]? = (g l[i])[j]?
  | x :: l, 0, j, _, hj => by
    rw [List.flatMap_cons, Nat.zero_mul, Nat.zero_add, List.getElem?_append_left (by rw [hg]; exact hj)]; rfl
  | x :: l, i + 1, j, h, hj => by
    rw [List.flatMap_cons, List.getElem?_append_right (by rw [hg, Nat.add_mul]; omega), hg, show (i + 1) * k + j - k = i * k + j by rw [Nat.add_mul]; omega]
    exact flat_get k g hg l i j (by simpa using h) hj
end Go.Proofs.YtbicfaiabpcgfaaGreatDoor
namespace Go.Proofs.YtbicfaiabpcgfaaGreatDoor
open Go.RowKit Go.Shelf

def sV (w : List UInt8) : Value := .string ⟨w.toArray⟩
def OwnT (w w' : World) (v : Value) (ws : List (List UInt8)) : Prop := w'.ownsRow w.heap.size 9 1 v ws.length (ws.map sV)
theorem OwnT.nil (w w' : World) : OwnT w w' (.slice none 0 0) [] := ⟨rfl, .inl ⟨rfl, rfl⟩⟩
theorem info_str : (Tryz.prog.info? 9).map (fun i => (i.zero, i.size, i.bytes)) = some (some (.string ⟨#[]⟩), 1, 16) := by kernel_rfl
def glue (cur : List UInt8) : List (List UInt8) → List (List UInt8)
  | [] => [cur]
  | w :: r => (cur ++ w) :: r
theorem glue_nil {S : List (List UInt8)} (h : S ≠ []) : glue [] S = S := by cases S with
  | nil => exact absurd rfl h
  | cons w r => rfl
theorem glue_in (c x : UInt8) (cur t : List UInt8) (h : x ≠ c) : glue cur (splS c (x :: t)) = glue (cur ++ [x]) (splS c t) := by
  rw [splS, if_neg h]
  cases hq : splS c t with
  | nil => exact absurd hq (spl_ne c t)
  | cons w r => simp [glue]
theorem glue_at (c : UInt8) (cur t : List UInt8) : glue cur (splS c (c :: t)) = [cur] ++ glue [] (splS c t) := by
  rw [splS, if_pos rfl, glue_nil (spl_ne c t)]
  simp [glue]
theorem run_cut1 (l : List UInt8) (k : Nat) (h : k < l.length) (W : World) : (Instr.slice 9 (.string ⟨l.toArray⟩) (some (.int .i64 k)) (some (.int .i64 ((k : Int) + 1))) none).run Tryz.prog W = .ok (.string ⟨#[l[k]]⟩) W := by
  have hs : (⟨l.toArray⟩ : ByteArray).size = l.length := by show l.toArray.size = _; simp
  rw [run_slice_string (P := Tryz.prog) W 9 ⟨l.toArray⟩ .i64 .i64 (k : Int) ((k : Int) + 1) Tryz.underlying9 (by omega) (by omega) (by rw [hs]; omega)]
  refine congrArg (fun b : ByteArray => Result.ok (Value.string b) W) ?_
  apply ByteArray.ext
  apply Array.ext'
  have e1 : ((k : Int) + 1).toNat = k + 1 := by omega
  have e2 : (k : Int).toNat = k := by omega
  rw [e1, e2]
  simp
  rw [List.drop_eq_getElem_cons h]
  rfl
theorem str_news (w : World) (T : TypeId) (x : Value) : ∀ j u, [x][j]? = some u → (w.alloc (.cells #[x] T)).cell? ((⟨w.heap.size, 0, none⟩ : Addr).add j) = some u := by
  intro j u hj
  match j, hj with
  | 0, hj => simp at hj; subst hj; simp [Addr.add]
set_option maxRecDepth 100000 in
set_option maxHeartbeats 8000000 in
theorem refSplit_any (c : UInt8) (l : List UInt8) (w : World) (hl : l.length ≤ 100000) : Calls Tryz.prog 44 #[.string ⟨l.toArray⟩, .int .u8 (c.toNat : Nat)] w fun e w' => (∃ v, e = .returned v ∧ OwnT w w' v (splS c l)) ∧ Below w.heap.size w w' := by
  obtain ⟨i0, hi0, hz0, hz1, hz2⟩ := info_parts info_str
  have hsz : (⟨l.toArray⟩ : ByteArray).size = l.length := by show l.toArray.size = _; simp
  have hst0 : Hid ((0 ≤ l.length → splS c l = [] ++ glue [] (splS c (l.drop 0))) ∧ (0 = l.length + 1 → splS c l = [])) := Lib.hid ⟨fun _ => by rw [List.drop_zero, glue_nil (spl_ne c l)]; rfl, fun h => by omega⟩
  have h00 := Lib.hid (OwnT.nil w w)
  go_enter Tryz.func44, Tryz.ntmps44
  go_wp2
  go_loopw [5, 6, 7] (fun v pv iv wx => ∃ (k : Nat) (ws : List (List UInt8)) (cur : List UInt8), pv = .string ⟨cur.toArray⟩ ∧ iv = .int .i64 k ∧ k ≤ l.length + 1 ∧ Hid (ws.length ≤ k ∧ cur.length ≤ k) ∧ Hid (OwnT w wx v ws) ∧ Hid ((k ≤ l.length → splS c l = ws ++ glue cur (splS c (l.drop k))) ∧ (k = l.length + 1 → splS c l = ws)) ∧ Hid (Below w.heap.size w wx)) (fun _ _ iv _ => l.length + 1 - (intOf iv).toNat)
  case atStart => exact ⟨0, [], [], rfl, rfl, by omega, Lib.hid ⟨by simp, by simp⟩, h00, hst0, Lib.hid (xrefl w)⟩
  case round =>
    clear h00 hst0
    obtain ⟨k, ws, cur, rfl, rfl, hk, hwl, hown, hst, hb⟩ := hrel
    obtain ⟨hwl2, hcl2⟩ := hwl.out
    have hsb : w.heap.size ≤ (wr.alloc (.cells #[.string ⟨cur.toArray⟩] 9)).heap.size := by rw [World.size_alloc]; have := hb.out.size; omega
    by_cases hlt : k < l.length
    · have hltI : (k : Int) < l.length := by omega
      have hleI : (k : Int) ≤ l.length := by omega
      have hix := fun W => run_at_str l k hlt W
      have hcut := fun W => run_cut1 l k hlt W
      have hs1 := hst.out.1 (by omega)
      rw [List.drop_eq_getElem_cons hlt] at hs1
      generalize l[k] = x at *
      by_cases hx : x = c
      · subst hx
        rw [glue_at, ← List.append_assoc] at hs1
        replace hs1 := Lib.hid hs1
        clear hcut hst
        go_wp2_with (at_builtin; refine wpList_append_blkV (wr.alloc (.cells #[.string ⟨cur.toArray⟩] 9)) rfl _ _ 71 rfl w.heap.size 9 i0 (.string ⟨#[]⟩) 1 16 Tryz.underlying71 hi0 hz0 hz1 hz2 rfl (by decide) _ ws.length (ws.map sV) rfl (hown.out.alloc _) ⟨wr.heap.size, 0, none⟩ 1 1 [.string ⟨cur.toArray⟩] rfl rfl (str_news wr 9 _) (by simp [Value.oneCell']) (by unfold maxLen; omega) (by omega) hsb ?_; intro v3 w3 ho3 hg3 _; have hb3 := Lib.hid ((xalloc hb.out _).grown hg3 hsb (fun j hj => (hown.out.lt j hj).1)); replace ho3 := Lib.hid ho3; clear hg3)
        refine ⟨⟨k + 1, ws ++ [cur], [], rfl, by go_num, by omega, Lib.hid ⟨by simp; omega, by simp⟩, Lib.hid ?_, Lib.hid ⟨fun _ => hs1.out, fun h => by omega⟩, hb3⟩, by simp [intOf] <;> omega⟩
        unfold OwnT
        rw [List.length_append, List.map_append]
        exact ho3.out
      · rw [glue_in c x cur _ hx] at hs1
        have hne : ((x.toNat : Int) == (c.toNat : Int)) = false := by
          rw [beq_eq_false_iff_ne]; intro e; exact hx (UInt8.toNat_inj.1 (by omega))
        have hne2 : ¬ (x.toNat : Int) = (c.toNat : Int) := fun e => hx (UInt8.toNat_inj.1 (by omega))
        obtain ⟨cur2, hc2⟩ : ∃ cur2, cur2 = cur ++ [x] := ⟨_, rfl⟩
        have e2 : (⟨cur.toArray⟩ : ByteArray) ++ ⟨#[x]⟩ = ⟨cur2.toArray⟩ := by rw [hc2]; exact str_add cur [x]
        have hc3 : cur2.length ≤ k + 1 := by rw [hc2]; simp; omega
        rw [← hc2] at hs1
        generalize x.toNat = xn at *
        replace hs1 := Lib.hid hs1
        clear hst hc2
        go_wp2
        refine ⟨⟨k + 1, ws, cur2, rfl, by go_num, by omega, Lib.hid ⟨by omega, by omega⟩, hown, Lib.hid ⟨fun _ => hs1.out, fun h => by omega⟩, hb⟩, by simp [intOf] <;> omega⟩
    · by_cases hkl : k = l.length
      · subst hkl
        have hs1 := hst.out.1 (by omega)
        rw [List.drop_length, splS, glue, List.append_nil] at hs1
        replace hs1 := Lib.hid hs1
        clear hst
        go_wp2_with (at_builtin; refine wpList_append_blkV (wr.alloc (.cells #[.string ⟨cur.toArray⟩] 9)) rfl _ _ 71 rfl w.heap.size 9 i0 (.string ⟨#[]⟩) 1 16 Tryz.underlying71 hi0 hz0 hz1 hz2 rfl (by decide) _ ws.length (ws.map sV) rfl (hown.out.alloc _) ⟨wr.heap.size, 0, none⟩ 1 1 [.string ⟨cur.toArray⟩] rfl rfl (str_news wr 9 _) (by simp [Value.oneCell']) (by unfold maxLen; omega) (by omega) hsb ?_; intro v3 w3 ho3 hg3 _; have hb3 := Lib.hid ((xalloc hb.out _).grown hg3 hsb (fun j hj => (hown.out.lt j hj).1)); replace ho3 := Lib.hid ho3; clear hg3)
        refine ⟨⟨l.length + 1, ws ++ [cur], [], rfl, by go_num, by omega, Lib.hid ⟨by simp; omega, by simp⟩, Lib.hid ?_, Lib.hid ⟨fun h => by omega, fun _ => hs1.out⟩, hb3⟩, by simp [intOf] <;> omega⟩
        unfold OwnT
        rw [List.length_append, List.map_append]
        exact ho3.out
      · have hgt : (l.length : Int) < k := by omega
        have hq := hst.out.2 (by omega)
        clear hst
        replace hq := Lib.hid hq
        go_wp2
        go_ret
        rw [hq.out]
        exact ⟨⟨_, rfl, hown.out⟩, hb.out⟩
end Go.Proofs.YtbicfaiabpcgfaaGreatDoor
namespace Go.Proofs.YtbicfaiabpcgfaaGreatDoor
open Go.RowKit

theorem hex_cut (d : Nat) (hd : d < 16) (W : World) : (Instr.slice 9 (.string { data := #[48, 49, 50, 51, 52, 53, 54, 55, 56, 57, 97, 98, 99, 100, 101, 102] }) (some (.int .u8 (d : Int))) (some (.int .u8 ((d : Int) + 1))) none).run Tryz.prog W = .ok (.string (({ data := #[48, 49, 50, 51, 52, 53, 54, 55, 56, 57, 97, 98, 99, 100, 101, 102] } : ByteArray).extract d (d + 1))) W := by
  have h := run_slice_string (P := Tryz.prog) W 9 { data := #[48, 49, 50, 51, 52, 53, 54, 55, 56, 57, 97, 98, 99, 100, 101, 102] } .u8 .u8 (d : Int) ((d : Int) + 1) Tryz.underlying9 (by omega) (by omega) (by show (d : Int) + 1 ≤ ((16 : Nat) : Int); omega)
  rw [h]
  congr 4
set_option maxRecDepth 100000 in
theorem hex_any (zs : List Int) (a : Option Addr) (c : Nat) (w : World) (hrow : RowAt .u8 w a zs) (hz : ∀ z ∈ zs, 0 ≤ z ∧ z < 256) (hl : zs.length < 1000000) :
    Calls Tryz.prog 46 #[.slice a zs.length c] w fun e w' => e = .returned (txtV ([48, 120] ++ hexL zs)) ∧ Below w.heap.size w w' := by
  unfold txtV
  replace hrow := Lib.hid hrow
  go_enter Tryz.func46, Tryz.ntmps46
  go_wp2
  go_loopw [3, 4] (fun s i wx => ∃ k : Nat, k ≤ zs.length ∧ i = .int .i64 k ∧ s = txtV ([48, 120] ++ hexL (zs.take k)) ∧ Below w.heap.size w wx) (fun _ i _ => zs.length - (intOf i).toNat)
  case atStart => exact ⟨0, by omega, rfl, rfl, xrefl w⟩
  case round =>
    obtain ⟨k, hk, rfl, rfl, hb⟩ := hrel
    by_cases hlt : k < zs.length
    · have hsn := hexL_snoc zs k hlt
      obtain ⟨b, o, rfl, hc⟩ := (hrow.out.below hb) k hlt
      have hzb := hz zs[k] (List.getElem_mem hlt)
      unfold hexB at hsn
      generalize zs[k] = z at *
      obtain ⟨n, rfl⟩ : ∃ n : Nat, z = n := ⟨z.toNat, by omega⟩
      obtain ⟨x, hx⟩ : ∃ x, x = n / 16 := ⟨_, rfl⟩
      obtain ⟨y, hy⟩ : ∃ y, y = n % 16 := ⟨_, rfl⟩
      have hx16 : x < 16 := by omega
      have hy16 : y < 16 := by omega
      have e1 : ((n : Int) / 16).toNat = x := by omega
      have e2 : ((n : Int) % 16).toNat = y := by omega
      rw [e1, e2] at hsn
      unfold txtV
      replace hsn := Lib.hid hsn
      have hlen : (hexL (zs.take k)).length ≤ 2000000 := by rw [hexL_len, List.length_take]; omega
      generalize hexL (zs.take k) = t at *
      clear e1 e2
      have e1 : (n : Int) / 16 = (x : Int) := by omega
      have e2 : (n : Int) % 16 = (y : Int) := by omega
      have q1 : IntKind.u8.wrap ((x : Int) + 1) = (x : Int) + 1 := by rw [IntKind.wrap_u8]; omega
      have q2 : IntKind.u8.wrap ((y : Int) + 1) = (y : Int) + 1 := by rw [IntKind.wrap_u8]; omega
      have q7 : IntKind.u8.wrap (x : Int) = (x : Int) := by rw [IntKind.wrap_u8]; omega
      have q8 : IntKind.u8.wrap (y : Int) = (y : Int) := by rw [IntKind.wrap_u8]; omega
      have q3 : (x : Int) + 1 ≤ 16 := by omega
      have q4 : (y : Int) + 1 ≤ 16 := by omega
      have q5 : ((x : Int) + 1).toNat = x + 1 := by omega
      have q6 : ((y : Int) + 1).toNat = y + 1 := by omega
      have r1 := hex_cut x hx16
      have r2 := hex_cut y hy16
      have hk2 : (k : Int) < zs.length := by omega
      clear hx hy
      go_upto_region 5 with fail
      go_quiet (fail)
      have hst := Lib.hid (((congrArg (· ++ _) (hex_step (48 :: 120 :: t) x hx16)).trans (hex_step _ y hy16)))
      clear r1 r2 q1 q2 q3 q4 q5 q6 q7 q8 e1 e2
      go_wp2
      refine ⟨⟨k + 1, by omega, rfl, ?_, xdrewN hb nq⟩, by simp [intOf]; omega⟩
      rw [hsn.out]
      exact (congrArg Value.string hst.out).trans (by simp)
    · obtain rfl : k = zs.length := by omega
      rw [List.take_length]
      clear hlt
      generalize hH : [48, 120] ++ hexL zs = H
      replace hH := Lib.hid hH
      unfold txtV
      go_wp2
      go_ret
      exact ⟨by rw [← hH.out]; rfl, hb⟩
end Go.Proofs.YtbicfaiabpcgfaaGreatDoor
