/- Texts of this claim, merged; no condition. -/
import Derived.Shelf.Strings.SlTrimAscii
import Derived.Test.YthpallkphamobaaGreatDoorJ15
set_option linter.all false
namespace Go.Proofs.YthpallkphamobaaGreatDoor
open Go.RowKit Go.Shelf

theorem run_digI : ∀ (d : Nat), d < 16 → ∀ W : World, (Instr.index 9 (.string ⟨#[48, 49, 50, 51, 52, 53, 54, 55, 56, 57, 97, 98, 99, 100, 101, 102]⟩) (.int .i64 d)).run Tryz.prog W = .ok (.int .u8 ((hexc d).toNat : Nat)) W
  | 0, _, _ => by kernel_rfl
  | 1, _, _ => by kernel_rfl
  | 2, _, _ => by kernel_rfl
  | 3, _, _ => by kernel_rfl
  | 4, _, _ => by kernel_rfl
  | 5, _, _ => by kernel_rfl
  | 6, _, _ => by kernel_rfl
  | 7, _, _ => by kernel_rfl
  | 8, _, _ => by kernel_rfl
  | 9, _, _ => by kernel_rfl
  | 10, _, _ => by kernel_rfl
  | 11, _, _ => by kernel_rfl
  | 12, _, _ => by kernel_rfl
  | 13, _, _ => by kernel_rfl
  | 14, _, _ => by kernel_rfl
  | 15, _, _ => by kernel_rfl
  | n + 16, h, _ => absurd h (by omega)
theorem digO_look {c : Nat} (hc : c < 256) (h : ∀ d, d < 16 → (hexc d).toNat ≠ c) : digO (UInt8.ofNat c) = none := by
  unfold digO
  rw [List.find?_eq_none]
  intro d hd
  have := h d (List.mem_range.1 hd)
  simp only [beq_iff_eq]
  intro e
  rw [e] at this
  simp at this
  omega
theorem digO_hit {c d : Nat} (hd : d < 16) (h : (hexc d).toNat = c) : digO (UInt8.ofNat c) = some d := by
  have : UInt8.ofNat c = hexc d := by rw [← h]; simp
  rw [this]; exact dig_hex d hd
def digI (c : Nat) : Int := match digO (UInt8.ofNat c) with | some d => (d : Int) | none => -1
set_option maxRecDepth 100000 in
set_option maxHeartbeats 4000000 in
theorem refDigit_any (c : Nat) (w : World) (hc : c < 256) : Calls Tryz.prog 49 #[.int .u8 c] w fun e w' => e = .returned (.int .i64 (digI c)) ∧ w' = w := by
  have hdg := Lib.hid fun d h W => run_dig d h W
  go_enter Tryz.func49, Tryz.ntmps49
  go_wp2
  go_loopw [3] (fun iv wx => ∃ i : Nat, i ≤ 16 ∧ iv = .int .i64 i ∧ Hid (∀ d, d < i → (hexc d).toNat ≠ c) ∧ wx = w) (fun iv _ => 16 - (intOf iv).toNat)
  case atStart => exact ⟨0, by omega, rfl, Lib.hid fun c h => by omega, rfl⟩
  case round =>
    obtain ⟨i, hi, rfl, hno, rfl⟩ := hrel
    by_cases hlt : i < 16
    · have hltI : (i : Int) < 16 := by omega
      have hdi := fun W => hdg.out i hlt W
      have hdi2 : ∀ W, (Instr.index 9 (.string ⟨#[48, 49, 50, 51, 52, 53, 54, 55, 56, 57, 97, 98, 99, 100, 101, 102]⟩) (.int .i64 i)).run Tryz.prog W = .ok (.int .u8 ((hexc i).toNat : Nat)) W := run_digI i hlt
      have hnx : Hid ((hexc i).toNat ≠ c → ∀ d, d < i + 1 → (hexc d).toNat ≠ c) := Lib.hid fun h d hd => by
        by_cases e : d = i
        · subst e; exact h
        · exact hno.out d (by omega)
      have hhit : Hid ((hexc i).toNat = c → digI c = i) := Lib.hid fun h => by unfold digI; rw [digO_hit hlt h]
      clear hdi
      generalize (hexc i).toNat = u at *
      by_cases hu : u = c
      · have hq := hhit.out hu
        subst hu
        clear hnx hhit
        replace hq := Lib.hid hq
        go_wp2
        go_ret
        rw [hq.out]
        exact ⟨rfl, rfl⟩
      · have hn2 := Lib.hid (hnx.out hu)
        have huI : ((u : Int) == (c : Int)) = false := by simp; omega
        have huI2 : ¬ (u : Int) = (c : Int) := by omega
        clear hnx hhit hu
        go_wp2
        exact ⟨⟨i + 1, by omega, by go_num, hn2, trivial⟩, by simp [intOf] <;> omega⟩
    · obtain rfl : i = 16 := by omega
      have hq : digI c = -1 := by unfold digI; rw [digO_look hc hno.out]
      go_wp2
      go_ret
      rw [hq]
      exact ⟨rfl, rfl⟩
theorem unhexP_step {l : List UInt8} {bs : List Nat} {a b : UInt8} {r : List UInt8} (h : unhexP l = (unhexP (a :: b :: r)).map (bs ++ ·)) :
    (∀ x y, digO a = some x → digO b = some y → unhexP l = (unhexP r).map (bs ++ [16 * x + y] ++ ·)) ∧ ((digO a = none ∨ digO b = none) → unhexP l = none) := by
  constructor
  · intro x y hx hy
    rw [h, unhexP, hx, hy]
    cases unhexP r with
    | none => rfl
    | some z => simp
  · intro hn
    rw [h, unhexP]
    rcases hn with hn | hn
    · rw [hn]; rfl
    · rw [hn]; cases digO a <;> rfl
theorem drop_two {α : Type} (l : List α) (k : Nat) (h : k + 1 < l.length) : l.drop k = l[k]'(by omega) :: l[k + 1] :: l.drop (k + 2) := by
  rw [List.drop_eq_getElem_cons (by omega), List.drop_eq_getElem_cons (by omega)]
theorem run_at_str (l : List UInt8) (j : Nat) (h : j < l.length) (W : World) : (Instr.index 9 (.string ⟨l.toArray⟩) (.int .i64 j)).run Tryz.prog W = .ok (.int .u8 (l[j].toNat : Nat)) W := by
  rw [run_index_string W 9 ⟨l.toArray⟩ .i64 j Tryz.underlying9]
  have hs : (⟨l.toArray⟩ : ByteArray).size = l.length := by show l.toArray.size = _; simp
  rw [dif_pos ⟨by omega, by rw [hs]; omega⟩]
  rfl
theorem run_cut2 (l : List UInt8) (W : World) (h : 2 ≤ l.length) : (Instr.slice 9 (.string ⟨l.toArray⟩) none (some (.int .i64 2)) none).run Tryz.prog W = .ok (.string ⟨(l.take 2).toArray⟩) W := by
  have hs : (⟨l.toArray⟩ : ByteArray).size = l.length := by show l.toArray.size = _; simp
  rw [run_slice_string_h W 9 ⟨l.toArray⟩ Tryz.underlying9 .i64 2 (by omega) (by rw [hs]; omega)]
  refine congrArg (fun b : ByteArray => Result.ok (Value.string b) W) ?_
  apply ByteArray.ext
  simp
theorem digI_some {c : UInt8} {d : Nat} (h : digO c = some d) : digI c.toNat = d := by unfold digI; rw [show UInt8.ofNat c.toNat = c by simp, h]
theorem digI_none {c : UInt8} (h : digO c = none) : digI c.toNat = -1 := by unfold digI; rw [show UInt8.ofNat c.toNat = c by simp, h]
theorem dig_lt {c : UInt8} {d : Nat} (h : digO c = some d) : d < 16 := (dig_some h).1
def digS : List UInt8 := [48, 49, 50, 51, 52, 53, 54, 55, 56, 57, 97, 98, 99, 100, 101, 102]
theorem dig_in' : ∀ n : Fin 256, (digO (UInt8.ofNat n.1)).isSome = digS.contains (UInt8.ofNat n.1) := by decide +kernel
theorem dig_idx' : ∀ n : Fin 256, Lib.indexByte digS (UInt8.ofNat n.1) = digI n.1 := by decide +kernel
theorem dig_in (c : UInt8) : (digO c).isSome = digS.contains c := by
  have := dig_in' ⟨c.toNat, UInt8.toNat_lt c⟩
  simpa using this
theorem dig_idx (c : UInt8) : Lib.indexByte digS c = digI c.toNat := by
  have := dig_idx' ⟨c.toNat, UInt8.toNat_lt c⟩
  simpa using this
theorem drop_all {α : Type} (p : α → Bool) : ∀ l : List α, l.dropWhile p = [] ↔ ∀ x ∈ l, p x = true
  | [] => by simp
  | a :: l => by
    rw [List.dropWhile_cons]
    cases h : p a with
    | true => simp only [if_true, drop_all p l]; simp [h]
    | false => simp [h]
theorem drop_head {α : Type} (p : α → Bool) : ∀ l : List α, (∀ x ∈ l.dropWhile p, p x = true) → l.dropWhile p = []
  | [], _ => rfl
  | a :: l, h => by
    rw [List.dropWhile_cons] at h ⊢
    cases ha : p a with
    | true =>
      rw [ha] at h
      simp only [if_true] at h ⊢
      exact drop_head p l h
    | false =>
      rw [ha] at h
      exact absurd (h a (by simp)) (by rw [ha]; decide)
theorem trim_all (l cs : List UInt8) : Lib.trimS l cs = [] ↔ ∀ x ∈ l, cs.contains x = true := by
  unfold Lib.trimS Lib.trimLeftS Lib.trimRightS
  rw [drop_all]
  constructor
  · intro h
    have h2 := drop_head (fun x => cs.contains x) l.reverse fun x hx => h x (by simpa using hx)
    rw [drop_all] at h2
    exact fun x hx => h2 x (by simpa using hx)
  · intro h
    have h2 : l.reverse.dropWhile (fun x => cs.contains x) = [] := (drop_all _ _).2 fun x hx => h x (by simpa using hx)
    rw [h2]
    simp
theorem unhexP_get : ∀ {l : List UInt8} {us : List Nat}, unhexP l = some us → ∀ i (h : i < us.length), ∃ (a b : UInt8) (x y : Nat), l[2 * i]? = some a ∧ l[2 * i + 1]? = some b ∧ digO a = some x ∧ digO b = some y ∧ us[i] = 16 * x + y
  | [], us, h, i, hi => by cases h; simp at hi
  | [_], us, h, i, hi => by cases h
  | a :: b :: l, us, h, i, hi => by
    rw [unhexP] at h
    cases h1 : digO a with
    | none => rw [h1] at h; cases h
    | some x => cases h2 : digO b with
      | none => rw [h1, h2] at h; cases h
      | some y => cases h3 : unhexP l with
        | none => rw [h1, h2, h3] at h; cases h
        | some r =>
          rw [h1, h2, h3] at h
          cases h
          cases i with
          | zero => exact ⟨a, b, x, y, rfl, rfl, h1, h2, rfl⟩
          | succ i =>
            obtain ⟨a', b', x', y', e1, e2, e3, e4, e5⟩ := unhexP_get h3 i (by simpa using hi)
            refine ⟨a', b', x', y', ?_, ?_, e3, e4, by simpa using e5⟩
            · rw [show 2 * (i + 1) = 2 * i + 1 + 1 by omega]; simpa using e1
            · rw [show 2 * (i + 1) + 1 = 2 * i + 1 + 1 + 1 by omega]; simpa using e2
theorem unhexP_all : ∀ (m : Nat) (l : List UInt8), l.length = 2 * m → (∀ x ∈ l, digS.contains x = true) → ∃ us, unhexP l = some us ∧ us.length = m
  | 0, l, h, _ => by
    have : l = [] := List.length_eq_zero_iff.1 (by omega)
    subst this
    exact ⟨[], rfl, rfl⟩
  | m + 1, a :: b :: l, h, ha => by
    obtain ⟨us, h1, h2⟩ := unhexP_all m l (by simp at h; omega) fun x hx => ha x (by simp [hx])
    have e1 := ha a (by simp)
    have e2 := ha b (by simp)
    rw [← dig_in] at e1 e2
    obtain ⟨x, hx⟩ := Option.isSome_iff_exists.1 e1
    obtain ⟨y, hy⟩ := Option.isSome_iff_exists.1 e2
    exact ⟨_, by rw [unhexP, hx, hy, h1], by simp [h2]⟩
  | m + 1, [], h, _ => by simp at h
  | m + 1, [_], h, _ => by simp at h; omega
theorem unhexP_dig {l : List UInt8} {us : List Nat} (h : unhexP l = some us) : ∀ x ∈ l, digS.contains x = true := by
  intro c hc
  obtain ⟨h1, h2, h3⟩ := unhexP_some h
  obtain ⟨j, hj, rfl⟩ := List.getElem_of_mem hc
  obtain ⟨a, b, x, y, e1, e2, e3, e4, -⟩ := unhexP_get h (j / 2) (by omega)
  rw [← dig_in]
  rcases Nat.mod_two_eq_zero_or_one j with h0 | h0
  · rw [show 2 * (j / 2) = j by omega, List.getElem?_eq_getElem hj] at e1
    rw [Option.some.inj e1, e3]; rfl
  · rw [show 2 * (j / 2) + 1 = j by omega, List.getElem?_eq_getElem hj] at e2
    rw [Option.some.inj e2, e4]; rfl
/-- So many bytes of a word. -/
def bytesO (x : List UInt8) (m : Nat) : Option (List Nat) := match unhexN x with
  | none => none
  | some us => if us.length = m then some us else none
/-- The program's three conditions. -/
theorem bytes_iff (x : List UInt8) (m : Nat) (us : List Nat) : bytesO x m = some us ↔ ∃ l, x = 48 :: 120 :: l ∧ l.length = 2 * m ∧ (∀ c ∈ l, digS.contains c = true) ∧ unhexP l = some us := by
  constructor
  · intro h
    unfold bytesO unhexN at h
    split at h
    · cases h
    · rename_i us' hu
      split at hu
      · rename_i l
        split at h
        · rename_i hm
          cases h
          have := (unhexP_some hu).2.2
          exact ⟨l, rfl, by omega, unhexP_dig hu, hu⟩
        · cases h
      · cases hu
  · rintro ⟨l, rfl, h1, h2, h3⟩
    have := (unhexP_some h3).2.2
    unfold bytesO
    show (match unhexP l with | none => none | some us => if us.length = m then some us else none) = some us
    rw [h3]
    dsimp only
    rw [if_pos (by omega)]
theorem bytes_none {x : List UInt8} {m : Nat} (h : bytesO x m = none) {l : List UInt8} (e : x = 48 :: 120 :: l) (hl : l.length = 2 * m) : ¬ ∀ c ∈ l, digS.contains c = true := fun ha => by
  obtain ⟨us, h1, h2⟩ := unhexP_all m l hl ha
  have := (bytes_iff x m us).2 ⟨l, e, hl, ha, h1⟩
  rw [h] at this; cases this
theorem trim_any (l : List UInt8) (w : World) (hl : l.length ≤ 4194304) : Calls Tryz.prog 47 #[.string ⟨l.toArray⟩, .string ⟨#[48, 49, 50, 51, 52, 53, 54, 55, 56, 57, 97, 98, 99, 100, 101, 102]⟩] w fun e w' => e = .returned (.string ⟨(Lib.trimS l digS).toArray⟩) ∧ Below w.heap.size w w' :=
  Any.strings_Trim_laid Tryz.lays160 (by kernel_rfl) ⟨l.toArray⟩ ⟨digS.toArray⟩ w (by show l.toArray.size ≤ _; simp; omega) (by decide) (ascii_of_all (by decide))
theorem or_fin : ∀ x y : Fin 16, IntKind.u8.wrap (bits .or .i64 (IntKind.i64.wrap ((x.1 : Int) * 16)) (y.1 : Int)) = ((16 * x.1 + y.1 : Nat) : Int) := by decide +kernel
theorem cut_any (x : List UInt8) (w : World) : Calls Tryz.prog 46 #[.string ⟨x.toArray⟩, .string ⟨#[48, 120]⟩] w fun e w' => e = .returned (.tuple #[.string ⟨(Lib.trimPrefix x [48, 120]).toArray⟩, .bool (Lib.hasPrefix x [48, 120])]) ∧ w = w' :=
  (Tryz.strings_CutPrefix ⟨x.toArray⟩ ⟨#[48, 120]⟩ w).mono fun e w' h => ⟨h.1, h.2.symm⟩
theorem idx_any (c : UInt8) (w : World) : Calls Tryz.prog 48 #[.string ⟨#[48, 49, 50, 51, 52, 53, 54, 55, 56, 57, 97, 98, 99, 100, 101, 102]⟩, .int .u8 (c.toNat : Nat)] w fun e w' => e = .returned (.int .i64 (digI c.toNat)) ∧ w = w' := by
  refine (Tryz.strings_IndexByte ⟨digS.toArray⟩ (c.toNat : Nat) w).mono fun e w' h => ⟨?_, h.2.symm⟩
  rw [h.1]
  have e1 : ((c.toNat : Nat) : Int).toNat.toUInt8 = c := by simp
  rw [e1]
  exact congrArg (fun i => Ending.returned (Value.int .i64 i)) (dig_idx c)
theorem pre_yes {x : List UInt8} (h : Lib.hasPrefix x [48, 120] = true) : ∃ l, x = 48 :: 120 :: l ∧ Lib.trimPrefix x [48, 120] = l := by
  match x, h with
  | a :: b :: l, h =>
    have h' := h
    simp [Lib.hasPrefix] at h'
    obtain ⟨rfl, rfl⟩ := h'
    exact ⟨l, rfl, by unfold Lib.trimPrefix; rw [if_pos h]; rfl⟩
  | [], h => simp [Lib.hasPrefix] at h
  | [_], h => simp [Lib.hasPrefix] at h
end Go.Proofs.YthpallkphamobaaGreatDoor
namespace Go.Proofs.YthpallkphamobaaGreatDoor
open Go.RowKit Go.Shelf

def zAdr : List Nat := [0, 0, 0, 0, 0, 0, 0, 0, 0, 0, 0, 0, 0, 0, 0, 0, 0, 0, 0, 0]
def zAdrC : List Value := [.int .u8 0, .int .u8 0, .int .u8 0, .int .u8 0, .int .u8 0, .int .u8 0, .int .u8 0, .int .u8 0, .int .u8 0, .int .u8 0, .int .u8 0, .int .u8 0, .int .u8 0, .int .u8 0, .int .u8 0, .int .u8 0, .int .u8 0, .int .u8 0, .int .u8 0, .int .u8 0]
theorem zAdrC_eq : adrC zAdr = zAdrC := rfl
theorem addrF_bytes (s : List UInt8) : addrF s = bytesO s 20 := by
  unfold addrF bytesO
  cases unhexN s <;> rfl
set_option maxRecDepth 100000 in
set_option maxHeartbeats 8000000 in
theorem address_fail (x : List UInt8) (w : World) (hx : x.length ≤ 4194304) (h : addrF x = none) :
    Calls Tryz.prog 18 #[.string ⟨x.toArray⟩] w fun e w' => e = .returned (.tuple #[.agg zAdrC.toArray, .int .i64 190]) ∧ Below w.heap.size w w' := by
  have hB : BlkG (w.alloc (.cells zAdrC.toArray 29)) w.heap.size 29 zAdrC := BlkG.new w _ _
  have hb0 : Below w.heap.size w (w.alloc (.cells zAdrC.toArray 29)) := xalloc (xrefl w) _
  unfold zAdrC at hB hb0 ⊢
  have hct := Lib.hid fun W => cut_any x W
  rw [addrF_bytes] at h
  replace hB := Lib.hid hB
  replace hb0 := Lib.hid hb0
  cases hp : Lib.hasPrefix x [48, 120] with
  | false =>
    rw [hp] at hct
    clear h hp hx
    go_enter Tryz.func18, Tryz.ntmps18
    go_upto_region 1 with fail
    generalize w.alloc (.cells #[.int .u8 0, .int .u8 0, .int .u8 0, .int .u8 0, .int .u8 0, .int .u8 0, .int .u8 0, .int .u8 0, .int .u8 0, .int .u8 0, .int .u8 0, .int .u8 0, .int .u8 0, .int .u8 0, .int .u8 0, .int .u8 0, .int .u8 0, .int .u8 0, .int .u8 0, .int .u8 0] 29) = w0 at *
    go_wp2_with (first
      | (go_at_call 46; refine (hct.out _).mono ?_; rintro e w2 ⟨rfl, rfl⟩)
      | (refine wpList_load_mid rfl 29 _ rfl w.heap.size 0 rfl [.int .u8 0, .int .u8 0, .int .u8 0, .int .u8 0, .int .u8 0, .int .u8 0, .int .u8 0, .int .u8 0, .int .u8 0, .int .u8 0, .int .u8 0, .int .u8 0, .int .u8 0, .int .u8 0, .int .u8 0, .int .u8 0, .int .u8 0, .int .u8 0, .int .u8 0, .int .u8 0] _ (BlkG.range hB.out) Tryz.underlying29 rfl (by kernel_rfl) ?_)
      | (refine wpList_store_blkG rfl 29 _ _ rfl w.heap.size rfl 29 [.int .u8 0, .int .u8 0, .int .u8 0, .int .u8 0, .int .u8 0, .int .u8 0, .int .u8 0, .int .u8 0, .int .u8 0, .int .u8 0, .int .u8 0, .int .u8 0, .int .u8 0, .int .u8 0, .int .u8 0, .int .u8 0, .int .u8 0, .int .u8 0, .int .u8 0, .int .u8 0] [.int .u8 0, .int .u8 0, .int .u8 0, .int .u8 0, .int .u8 0, .int .u8 0, .int .u8 0, .int .u8 0, .int .u8 0, .int .u8 0, .int .u8 0, .int .u8 0, .int .u8 0, .int .u8 0, .int .u8 0, .int .u8 0, .int .u8 0, .int .u8 0, .int .u8 0, .int .u8 0] hB.out rfl rfl (by kernel_rfl) (by decide) ?_; intro w3 hB3 ho3; have hb3 := Lib.hid (ho3.below hb0.out (Below.size hb0.out) (by rintro k rfl; exact Nat.le_refl _)); replace hB3 := Lib.hid hB3; clear ho3)
    )
    exact bodyPost_ret (results_blkG2 (p := 2) rfl _ _ w.heap.size 29 _ _ rfl hB3.out Tryz.underlying29 rfl (by kernel_rfl)) rfl ⟨rfl, hb3.out⟩
  | true =>
    rw [hp] at hct
    obtain ⟨l, rfl, hl⟩ := pre_yes hp
    rw [hl] at hct
    have hsz : (⟨l.toArray⟩ : ByteArray).size = l.length := by show l.toArray.size = _; simp
    by_cases h40 : l.length = 40
    · have hno := bytes_none h rfl h40
      have hne : Lib.trimS l digS ≠ [] := fun e => hno ((trim_all l digS).1 e)
      have htr := Lib.hid fun W => trim_any l W (by omega)
      generalize Lib.trimS l digS = t at *
      have hte : t.isEmpty = false := by cases t with
        | nil => exact absurd rfl hne
        | cons _ _ => rfl
      have h40I : (l.length : Int) = 40 := by omega
      clear h hp hx hno hne h40 hl
      go_enter Tryz.func18, Tryz.ntmps18
      go_upto_region 1 with fail
      generalize w.alloc (.cells #[.int .u8 0, .int .u8 0, .int .u8 0, .int .u8 0, .int .u8 0, .int .u8 0, .int .u8 0, .int .u8 0, .int .u8 0, .int .u8 0, .int .u8 0, .int .u8 0, .int .u8 0, .int .u8 0, .int .u8 0, .int .u8 0, .int .u8 0, .int .u8 0, .int .u8 0, .int .u8 0] 29) = w0 at *
      go_wp2_with (first
      | (go_at_call 46; refine (hct.out _).mono ?_; rintro e w2 ⟨rfl, rfl⟩)
      | (go_at_call 47; refine (htr.out _).mono ?_; rintro e w2 ⟨rfl, hb2⟩; have hB2 := Lib.hid (hB.out.below hb2); replace hb2 := Lib.hid (xtrans hb0.out hb2))
      | (refine wpList_load_mid rfl 29 _ rfl w.heap.size 0 rfl [.int .u8 0, .int .u8 0, .int .u8 0, .int .u8 0, .int .u8 0, .int .u8 0, .int .u8 0, .int .u8 0, .int .u8 0, .int .u8 0, .int .u8 0, .int .u8 0, .int .u8 0, .int .u8 0, .int .u8 0, .int .u8 0, .int .u8 0, .int .u8 0, .int .u8 0, .int .u8 0] _ (BlkG.range hB2.out) Tryz.underlying29 rfl (by kernel_rfl) ?_)
      | (refine wpList_store_blkG rfl 29 _ _ rfl w.heap.size rfl 29 [.int .u8 0, .int .u8 0, .int .u8 0, .int .u8 0, .int .u8 0, .int .u8 0, .int .u8 0, .int .u8 0, .int .u8 0, .int .u8 0, .int .u8 0, .int .u8 0, .int .u8 0, .int .u8 0, .int .u8 0, .int .u8 0, .int .u8 0, .int .u8 0, .int .u8 0, .int .u8 0] [.int .u8 0, .int .u8 0, .int .u8 0, .int .u8 0, .int .u8 0, .int .u8 0, .int .u8 0, .int .u8 0, .int .u8 0, .int .u8 0, .int .u8 0, .int .u8 0, .int .u8 0, .int .u8 0, .int .u8 0, .int .u8 0, .int .u8 0, .int .u8 0, .int .u8 0, .int .u8 0] hB2.out rfl rfl (by kernel_rfl) (by decide) ?_; intro w3 hB3 ho3; have hb3 := Lib.hid (ho3.below hb2.out (Below.size hb2.out) (by rintro k rfl; exact Nat.le_refl _)); replace hB3 := Lib.hid hB3; clear ho3)
      )
      exact bodyPost_ret (results_blkG2 (p := 2) rfl _ _ w.heap.size 29 _ _ rfl hB3.out Tryz.underlying29 rfl (by kernel_rfl)) rfl ⟨rfl, hb3.out⟩
    · have h40I : ¬ (l.length : Int) = 40 := by omega
      clear h hp hx h40 hl
      go_enter Tryz.func18, Tryz.ntmps18
      go_upto_region 1 with fail
      generalize w.alloc (.cells #[.int .u8 0, .int .u8 0, .int .u8 0, .int .u8 0, .int .u8 0, .int .u8 0, .int .u8 0, .int .u8 0, .int .u8 0, .int .u8 0, .int .u8 0, .int .u8 0, .int .u8 0, .int .u8 0, .int .u8 0, .int .u8 0, .int .u8 0, .int .u8 0, .int .u8 0, .int .u8 0] 29) = w0 at *
      go_wp2_with (first
      | (go_at_call 46; refine (hct.out _).mono ?_; rintro e w2 ⟨rfl, rfl⟩)
      | (refine wpList_load_mid rfl 29 _ rfl w.heap.size 0 rfl [.int .u8 0, .int .u8 0, .int .u8 0, .int .u8 0, .int .u8 0, .int .u8 0, .int .u8 0, .int .u8 0, .int .u8 0, .int .u8 0, .int .u8 0, .int .u8 0, .int .u8 0, .int .u8 0, .int .u8 0, .int .u8 0, .int .u8 0, .int .u8 0, .int .u8 0, .int .u8 0] _ (BlkG.range hB.out) Tryz.underlying29 rfl (by kernel_rfl) ?_)
      | (refine wpList_store_blkG rfl 29 _ _ rfl w.heap.size rfl 29 [.int .u8 0, .int .u8 0, .int .u8 0, .int .u8 0, .int .u8 0, .int .u8 0, .int .u8 0, .int .u8 0, .int .u8 0, .int .u8 0, .int .u8 0, .int .u8 0, .int .u8 0, .int .u8 0, .int .u8 0, .int .u8 0, .int .u8 0, .int .u8 0, .int .u8 0, .int .u8 0] [.int .u8 0, .int .u8 0, .int .u8 0, .int .u8 0, .int .u8 0, .int .u8 0, .int .u8 0, .int .u8 0, .int .u8 0, .int .u8 0, .int .u8 0, .int .u8 0, .int .u8 0, .int .u8 0, .int .u8 0, .int .u8 0, .int .u8 0, .int .u8 0, .int .u8 0, .int .u8 0] hB.out rfl rfl (by kernel_rfl) (by decide) ?_; intro w3 hB3 ho3; have hb3 := Lib.hid (ho3.below hb0.out (Below.size hb0.out) (by rintro k rfl; exact Nat.le_refl _)); replace hB3 := Lib.hid hB3; clear ho3)
      )
      exact bodyPost_ret (results_blkG2 (p := 2) rfl _ _ w.heap.size 29 _ _ rfl hB3.out Tryz.underlying29 rfl (by kernel_rfl)) rfl ⟨rfl, hb3.out⟩
end Go.Proofs.YthpallkphamobaaGreatDoor
namespace Go.Proofs.YthpallkphamobaaGreatDoor
open Go.RowKit Go.Shelf

theorem adrC_put (a : List Nat) (ha : a.length = 20) (k : Nat) (hk : k < 20) (z : Nat) (hz : a[k]'(by omega) = z) : (adrC (a.take k ++ List.replicate (20 - k) 0)).set k (.int .u8 z) = adrC (a.take (k + 1) ++ List.replicate (20 - (k + 1)) 0) := by
  have h1 : (a.take k).length = k := by rw [List.length_take]; omega
  have h2 : 20 - k = (20 - (k + 1)) + 1 := by omega
  rw [List.take_succ_eq_append_getElem (by omega), hz, h2, List.replicate_succ]
  unfold adrC natI
  rw [List.map_append, List.map_append, List.map_append, List.map_append, List.map_append, List.map_append, List.set_append_right _ _ (by simp; omega)]
  have hm : min k a.length = k := by omega
  simp [hm]
theorem adrC_zero (a : List Nat) (ha : a.length = 20) (k : Nat) (hk : k < 20) : (adrC (a.take k ++ List.replicate (20 - k) 0))[k]? = some (.int .u8 0) := by
  have h1 : (a.take k).length = k := by rw [List.length_take]; omega
  unfold adrC natI
  rw [List.getElem?_map, List.getElem?_map, List.getElem?_append_right (by omega), h1, Nat.sub_self, List.getElem?_replicate, if_pos (by omega)]
  rfl
set_option maxRecDepth 100000 in
set_option maxHeartbeats 8000000 in
theorem address_good (x : List UInt8) (a : List Nat) (w : World) (hx : x.length ≤ 4194304) (h : addrF x = some a) :
    Calls Tryz.prog 18 #[.string ⟨x.toArray⟩] w fun e w' => e = .returned (.tuple #[adrV a, .int .i64 0]) ∧ Below w.heap.size w w' := by
  have hB : BlkG (w.alloc (.cells zAdrC.toArray 29)) w.heap.size 29 zAdrC := BlkG.new w _ _
  have hb0 : Below w.heap.size w (w.alloc (.cells zAdrC.toArray 29)) := xalloc (xrefl w) _
  rw [addrF_bytes] at h
  obtain ⟨l, rfl, hl, hdg, hun⟩ := (bytes_iff x 20 a).1 h
  have ha20 : a.length = 20 := by have := (unhexP_some hun).2.2; omega
  have hget := Lib.hid fun k hk => unhexP_get hun k hk
  have ht : Lib.trimS l digS = [] := (trim_all l digS).2 hdg
  have hct := Lib.hid fun W => cut_any (48 :: 120 :: l) W
  rw [show Lib.trimPrefix (48 :: 120 :: l) [48, 120] = l from rfl, show Lib.hasPrefix (48 :: 120 :: l) [48, 120] = true from rfl] at hct
  have htr := Lib.hid fun W => trim_any l W (by simp at hx; omega)
  rw [ht] at htr
  have hsz : (⟨l.toArray⟩ : ByteArray).size = l.length := by show l.toArray.size = _; simp
  have h40I : (l.length : Int) = 40 := by omega
  have hat := Lib.hid fun j (hj : j < l.length) W => run_at_str l j hj W
  have hz0 : zAdrC = adrC (a.take 0 ++ List.replicate (20 - 0) 0) := rfl
  have hput := Lib.hid (adrC_put a ha20)
  have hzer := Lib.hid (adrC_zero a ha20)
  have hfin : a.take 20 ++ List.replicate (20 - 20) 0 = a := by rw [List.take_of_length_le (by omega)]; simp
  have hB : BlkG (w.alloc (.cells zAdrC.toArray 29)) w.heap.size 29 (adrC (a.take 0 ++ List.replicate (20 - 0) 0)) := by rw [← hz0]; exact hB
  replace hB := Lib.hid hB
  replace hb0 := Lib.hid hb0
  unfold zAdrC at hB hb0
  replace hfin := Lib.hid hfin
  clear h hx ht hun hdg hz0 hl
  unfold adrV
  go_enter Tryz.func18, Tryz.ntmps18
  go_upto_region 1 with fail
  generalize w.alloc (.cells #[.int .u8 0, .int .u8 0, .int .u8 0, .int .u8 0, .int .u8 0, .int .u8 0, .int .u8 0, .int .u8 0, .int .u8 0, .int .u8 0, .int .u8 0, .int .u8 0, .int .u8 0, .int .u8 0, .int .u8 0, .int .u8 0, .int .u8 0, .int .u8 0, .int .u8 0, .int .u8 0] 29) = w0 at *
  go_wp2_with (first
    | (go_at_call 46; refine (hct.out _).mono ?_; rintro e w2 ⟨rfl, rfl⟩)
    | (go_at_call 47; refine (htr.out _).mono ?_; rintro e w2 ⟨rfl, hb2⟩; have hB2 := Lib.hid (hB.out.below hb2); replace hb2 := Lib.hid (xtrans hb0.out hb2)))
  go_loopw [25] (fun iv wx => ∃ k : Nat, iv = .int .i64 k ∧ k ≤ 20 ∧ Hid (BlkG wx w.heap.size 29 (adrC (a.take k ++ List.replicate (20 - k) 0))) ∧ Hid (Below w.heap.size w wx)) (fun iv _ => 20 - (intOf iv).toNat)
  case atStart => exact ⟨0, rfl, by omega, hB2, hb2⟩
  case round =>
    clear hB2 hb2 hB hb0
    obtain ⟨k, rfl, hk, hBk, hb⟩ := hrel
    by_cases hlt : k < 20
    · have hltI : (k : Int) < 20 := by omega
      obtain ⟨ca, cb, xa, yb, e1, e2, d1, d2, ez⟩ := hget.out k (by omega)
      obtain ⟨hj1, e1⟩ := List.getElem?_eq_some_iff.1 e1
      obtain ⟨hj2, e2⟩ := List.getElem?_eq_some_iff.1 e2
      have hia := fun W => hat.out (2 * k) hj1 W
      have hib := fun W => hat.out (2 * k + 1) hj2 W
      rw [e1] at hia
      rw [e2] at hib
      have hwk : IntKind.i64.wrap (2 * (k : Int)) = ((2 * k : Nat) : Int) := by simp [IntKind.wrap, IntKind.bits, IntKind.signed]; omega
      have hwk1 : IntKind.i64.wrap (((2 * k : Nat) : Int) + 1) = ((2 * k + 1 : Nat) : Int) := by simp [IntKind.wrap, IntKind.bits, IntKind.signed]; omega
      generalize 2 * k + 1 = j1 at *
      generalize 2 * k = j at *
      have hixa := Lib.hid fun W => idx_any ca W
      have hixb := Lib.hid fun W => idx_any cb W
      rw [digI_some d1] at hixa
      rw [digI_some d2] at hixb
      have hx16 := dig_lt d1
      have hy16 := dig_lt d2
      obtain ⟨z, hz⟩ : ∃ z : Nat, z = 16 * xa + yb := ⟨_, rfl⟩
      have hzor : IntKind.u8.wrap (bits .or .i64 (IntKind.i64.wrap ((xa : Int) * 16)) (yb : Int)) = (z : Int) := by rw [hz]; exact or_fin ⟨xa, hx16⟩ ⟨yb, hy16⟩
      have hnx := Lib.hid (hput.out k hlt z (by rw [ez, hz]))
      have hzk := Lib.hid (hzer.out k hlt)
      clear e1 e2 d1 d2 hz ez
      generalize ca.toNat = an at *
      generalize cb.toNat = bn at *
      go_wp2_with fail
      refine' wp_region_growL 16 [fixd (.int .i64 k), fixd (.string ⟨l.toArray⟩), fixd (.int .i64 k), fixd (.int .i64 j), fixd (.int .u8 an), fixd (.int .i64 xa), fixd (.int .i64 (IntKind.i64.wrap ((xa : Int) * 16))), fixd (.string ⟨l.toArray⟩), fixd (.int .i64 k), fixd (.int .i64 j), fixd (.int .i64 j1), fixd (.int .u8 bn), fixd (.int .i64 yb), fixd (.int .i64 (bits .or .i64 (IntKind.i64.wrap ((xa : Int) * 16)) (yb : Int))), fixd (.int .u8 z), fixd (.pointer (some ⟨w.heap.size, k, none⟩))] (by kernel_rfl) (by kernel_rfl) ?_
      simp only [List.take_succ_cons, List.take_zero, List.drop_succ_cons, List.drop_zero]
      try simp only [Act.put, List.setIfInBounds_toArray, List.set_cons_succ, List.set_cons_zero, List.nil_append, List.cons_append]
      apply wpGrowV_fix (.int .i64 k) rfl rfl
      · intro W hb hF
        go_simp
        first | exact xrefl W | exact ⟨rfl, xrefl W⟩ | exact ⟨by omega, xrefl W⟩
      try simp only [Act.put, List.setIfInBounds_toArray, List.set_cons_succ, List.set_cons_zero, List.nil_append, List.cons_append]
      apply wpGrowV_fix (.string ⟨l.toArray⟩) rfl rfl
      · intro W hb hF
        go_simp
        first | exact xrefl W | exact ⟨rfl, xrefl W⟩ | exact ⟨by omega, xrefl W⟩
      try simp only [Act.put, List.setIfInBounds_toArray, List.set_cons_succ, List.set_cons_zero, List.nil_append, List.cons_append]
      apply wpGrowV_fix (.int .i64 k) rfl rfl
      · intro W hb hF
        go_simp
        first | exact xrefl W | exact ⟨rfl, xrefl W⟩ | exact ⟨by omega, xrefl W⟩
      try simp only [Act.put, List.setIfInBounds_toArray, List.set_cons_succ, List.set_cons_zero, List.nil_append, List.cons_append]
      apply wpGrowV_fix (.int .i64 j) rfl rfl
      · intro W hb hF
        go_simp
        first | exact xrefl W | exact ⟨rfl, xrefl W⟩ | exact ⟨by omega, xrefl W⟩
      try simp only [Act.put, List.setIfInBounds_toArray, List.set_cons_succ, List.set_cons_zero, List.nil_append, List.cons_append]
      apply wpGrowV_fix (.int .u8 an) rfl rfl
      · intro W hb hF
        go_simp
        first | exact xrefl W | exact ⟨rfl, xrefl W⟩ | exact ⟨by omega, xrefl W⟩
      try simp only [Act.put, List.setIfInBounds_toArray, List.set_cons_succ, List.set_cons_zero, List.nil_append, List.cons_append]
      apply wpGrowV_fix (.int .i64 xa) rfl rfl
      · intro W hb hF
        go_simp
        go_at_call 48
        refine (hixa.out W).mono ?_
        rintro e w' ⟨rfl, rfl⟩
        exact ⟨rfl, xrefl _⟩
      try simp only [Act.put, List.setIfInBounds_toArray, List.set_cons_succ, List.set_cons_zero, List.nil_append, List.cons_append]
      apply wpGrowV_fix (.int .i64 (IntKind.i64.wrap ((xa : Int) * 16))) rfl rfl
      · intro W hb hF
        go_simp
        first | exact xrefl W | exact ⟨rfl, xrefl W⟩ | exact ⟨by omega, xrefl W⟩
      try simp only [Act.put, List.setIfInBounds_toArray, List.set_cons_succ, List.set_cons_zero, List.nil_append, List.cons_append]
      apply wpGrowV_fix (.string ⟨l.toArray⟩) rfl rfl
      · intro W hb hF
        go_simp
        first | exact xrefl W | exact ⟨rfl, xrefl W⟩ | exact ⟨by omega, xrefl W⟩
      try simp only [Act.put, List.setIfInBounds_toArray, List.set_cons_succ, List.set_cons_zero, List.nil_append, List.cons_append]
      apply wpGrowV_fix (.int .i64 k) rfl rfl
      · intro W hb hF
        go_simp
        first | exact xrefl W | exact ⟨rfl, xrefl W⟩ | exact ⟨by omega, xrefl W⟩
      try simp only [Act.put, List.setIfInBounds_toArray, List.set_cons_succ, List.set_cons_zero, List.nil_append, List.cons_append]
      apply wpGrowV_fix (.int .i64 j) rfl rfl
      · intro W hb hF
        go_simp
        first | exact xrefl W | exact ⟨rfl, xrefl W⟩ | exact ⟨by omega, xrefl W⟩
      try simp only [Act.put, List.setIfInBounds_toArray, List.set_cons_succ, List.set_cons_zero, List.nil_append, List.cons_append]
      apply wpGrowV_fix (.int .i64 j1) rfl rfl
      · intro W hb hF
        go_simp
        first | exact xrefl W | exact ⟨rfl, xrefl W⟩ | exact ⟨by omega, xrefl W⟩
      try simp only [Act.put, List.setIfInBounds_toArray, List.set_cons_succ, List.set_cons_zero, List.nil_append, List.cons_append]
      apply wpGrowV_fix (.int .u8 bn) rfl rfl
      · intro W hb hF
        go_simp
        first | exact xrefl W | exact ⟨rfl, xrefl W⟩ | exact ⟨by omega, xrefl W⟩
      try simp only [Act.put, List.setIfInBounds_toArray, List.set_cons_succ, List.set_cons_zero, List.nil_append, List.cons_append]
      apply wpGrowV_fix (.int .i64 yb) rfl rfl
      · intro W hb hF
        go_simp
        go_at_call 48
        refine (hixb.out W).mono ?_
        rintro e w' ⟨rfl, rfl⟩
        exact ⟨rfl, xrefl _⟩
      try simp only [Act.put, List.setIfInBounds_toArray, List.set_cons_succ, List.set_cons_zero, List.nil_append, List.cons_append]
      apply wpGrowV_fix (.int .i64 (bits .or .i64 (IntKind.i64.wrap ((xa : Int) * 16)) (yb : Int))) rfl rfl
      · intro W hb hF
        go_simp
        first | exact xrefl W | exact ⟨rfl, xrefl W⟩ | exact ⟨by omega, xrefl W⟩
      try simp only [Act.put, List.setIfInBounds_toArray, List.set_cons_succ, List.set_cons_zero, List.nil_append, List.cons_append]
      apply wpGrowV_fix (.int .u8 z) rfl rfl
      · intro W hb hF
        go_simp
        first | exact xrefl W | exact ⟨rfl, xrefl W⟩ | exact ⟨by omega, xrefl W⟩
      try simp only [Act.put, List.setIfInBounds_toArray, List.set_cons_succ, List.set_cons_zero, List.nil_append, List.cons_append]
      apply wpGrowV_fix (.pointer (some ⟨w.heap.size, k, none⟩)) rfl rfl
      · intro W hb hF
        go_simp
        first | exact xrefl W | exact ⟨rfl, xrefl W⟩ | exact ⟨by omega, xrefl W⟩
      try simp only [Act.put, List.setIfInBounds_toArray, List.set_cons_succ, List.set_cons_zero, List.nil_append, List.cons_append]
      intro W3 hbW _
      have hB3 := hBk.out.below hbW
      have cz := blk_cell hB3 hzk.out
      have fz := hB3.free k
      replace hb := Lib.hid (xtrans hb.out hbW)
      replace hB3 := Lib.hid hB3
      go_wp2
      have hB4 := hB3.out.set k (.int .u8 z)
      rw [hnx.out] at hB4
      have ho : Only (· = w.heap.size) W3 (W3.setCell ⟨w.heap.size, k, none⟩ (.int .u8 z)) := (Only.refl _ _).setCell _ _ rfl
      exact ⟨⟨k + 1, by first | rfl | simp, by omega, Lib.hid hB4, Lib.hid (ho.below hb.out hb.out.size (by rintro q rfl; exact Nat.le_refl _))⟩, by simp [intOf]; omega⟩
    · obtain rfl : k = 20 := by omega
      rw [hfin.out] at hBk
      have hA20 : (adrC a).length = 20 := by rw [adrC_len, ha20]
      have hone : (adrC a).all (·.oneCell') = true := by simp [adrC, Value.oneCell']
      have hsize : w.heap.size ≤ w.heap.size := Nat.le_refl _
      go_wp2_with (first
        | (refine wpList_load_mid rfl 29 _ rfl w.heap.size 0 rfl (adrC a) _ (BlkG.range hBk.out) Tryz.underlying29 rfl (by rw [hA20]; kernel_rfl) ?_)
        | (refine wpList_store_blkG rfl 29 _ _ rfl w.heap.size rfl 29 (adrC a) (adrC a) hBk.out rfl rfl (by rw [hA20]; kernel_rfl) hone ?_; intro w3 hB3 ho3; have hb3 := Lib.hid (ho3.below hb.out (Below.size hb.out) (by rintro q rfl; exact Nat.le_refl _)); replace hB3 := Lib.hid hB3; clear ho3))
      exact bodyPost_ret (results_blkG2 (p := 2) rfl _ _ w.heap.size 29 _ _ rfl hB3.out Tryz.underlying29 rfl (by rw [hA20]; kernel_rfl)) rfl ⟨rfl, hb3.out⟩
/-- What Address answers. -/
def adrO (o : Option (List Nat)) : Value := .tuple #[adrV (o.getD zAdr), .int .i64 (if o.isSome then 0 else 190)]
theorem address_any (x : List UInt8) (w : World) (hx : x.length ≤ 4194304) :
    Calls Tryz.prog 18 #[.string ⟨x.toArray⟩] w fun e w' => e = .returned (adrO (addrF x)) ∧ Below w.heap.size w w' := by
  cases h : addrF x with
  | none => exact (address_fail x w hx h).mono fun e w' h => ⟨by rw [h.1]; unfold adrO adrV; rw [Option.getD_none, zAdrC_eq]; rfl, h.2⟩
  | some a => exact (address_good x a w hx h).mono fun e w' h => ⟨by rw [h.1]; rfl, h.2⟩
end Go.Proofs.YthpallkphamobaaGreatDoor
