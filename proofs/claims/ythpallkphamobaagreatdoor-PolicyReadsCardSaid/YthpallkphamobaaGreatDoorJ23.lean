/- Texts of this claim, merged; no condition. -/
import Derived.Test.YthpallkphamobaaGreatDoorJ22
import Derived.Test.YthpallkphamobaaGreatDoorJ02
set_option linter.all false
namespace Go.Proofs.YthpallkphamobaaGreatDoor
open Go.RowKit Go.Shelf

def parseN (s : List UInt8) : Nat := match parseF s with | .ok _ => 0 | .error n => n
def parseQ (s : List UInt8) : PolN := match parseF s with | .ok p => p | .error _ => noneP
theorem parse_bad {s : List UInt8} {n : Nat} (h : parseF s = .error n) : parseN s = n ∧ parseQ s = noneP := by unfold parseN parseQ; rw [h]; exact ⟨rfl, rfl⟩
theorem parse_ok {s : List UInt8} {p : PolN} (h : parseF s = .ok p) : parseN s = 0 ∧ parseQ s = p := by unfold parseN parseQ; rw [h]; exact ⟨rfl, rfl⟩
theorem parse_longP {s : List UInt8} (h : 65536 < s.length) : parseF s = .error 3 := by unfold parseF; rw [if_pos h]
theorem parse_openP {s : List UInt8} (h : ¬ 65536 < s.length) (h2 : s.getLast? ≠ some 10) : parseF s = .error 190 := by unfold parseF; rw [if_neg h, if_pos h2]
theorem parse_lines {s : List UInt8} (h : ¬ 65536 < s.length) (h2 : s.getLast? = some 10) : parseF s = match linesP noneP true (splS 10 s.dropLast) with
    | none => .error 190
    | some p => if checkF p = 0 then .ok p else .error (checkF p) := by unfold parseF; rw [if_neg h, if_neg (by simp [h2])]; rfl
theorem suf_last (s : List UInt8) : Lib.hasSuffix s [10] = decide (s.getLast? = some 10) := by
  unfold Lib.hasSuffix
  rw [Bool.eq_iff_iff, List.isSuffixOf_iff_suffix, decide_eq_true_iff]
  constructor
  · rintro ⟨t, rfl⟩; simp
  · intro h
    obtain ⟨hne, e⟩ := List.getLast?_eq_some_iff.1 h
    exact ⟨hne, e.symm⟩
theorem suf_trim {s : List UInt8} (h : s.getLast? = some 10) : Lib.trimSuffix s [10] = s.dropLast := by
  unfold Lib.trimSuffix
  rw [suf_last, h]
  simp [List.dropLast_eq_take]
theorem flat_getM {α β : Type} (k : Nat) (g : α → List β) : ∀ (l : List α), (∀ x ∈ l, (g x).length = k) → ∀ (i j : Nat) (h : i < l.length), j < k → (l.flatMap g)[i * k + j]? = (g l[i])[j]?
  | [], _, i, j, h, _ => by simp at h
  | x :: l, hg, 0, j, _, hj => by
    rw [List.flatMap_cons, Nat.zero_mul, Nat.zero_add, List.getElem?_append_left (by rw [hg x (by simp)]; exact hj)]; rfl
  | x :: l, hg, i + 1, j, h, hj => by
    rw [List.flatMap_cons, List.getElem?_append_right (by rw [hg x (by simp), Nat.add_mul]; omega), hg x (by simp), show (i + 1) * k + j - k = i * k + j by rw [Nat.add_mul]; omega]
    exact flat_getM k g l (fun y hy => hg y (by simp [hy])) i j (by simpa using h) hj
/-- A row of the call's own, as rows. -/
theorem own_rows {α : Type} {W : World} {base : Nat} {e : TypeId} {k : Nat} {C : α → List Value} {v : Value} {l : List α} (h : W.ownsRow base e k v l.length (l.flatMap C)) (hC : ∀ x ∈ l, (C x).length = k) : ∃ a c, v = .slice a l.length c ∧ RowsAt k C W a c l := by
  have hh := h
  rcases h.2 with ⟨e1, h0⟩ | ⟨g, cap, cur, rfl, hg, hgg, hnc, hcm, hcs, ht⟩
  · have hn : l = [] := List.length_eq_zero_iff.1 h0
    subst hn
    exact ⟨none, 0, e1, RowsAt.none⟩
  · refine ⟨_, cap, rfl, fun i hi => ⟨g, 0, rfl, fun j u hj => ?_⟩, by simp, ⟨hnc, by unfold maxLen at hcm; exact hcm⟩⟩
    have hjk : j < k := by rw [← hC l[i] (List.getElem_mem hi)]; exact (List.getElem?_eq_some_iff.1 hj).1
    have hlt : i * k + j < l.length * k := by
      have : (i + 1) * k ≤ l.length * k := Nat.mul_le_mul_right _ hi
      rw [Nat.add_mul] at this; omega
    rw [show 0 + i * k + j = i * k + j by omega, hh.cellAt (i * k + j) hlt, flat_getM k C l hC i j hi hjk]
    exact hj
/-! What memory holds of the call's results. -/
def polZ : List Value := [.int .u64 0, .slice none 0 0, .slice none 0 0]
structure PaS (w W : World) (vs : List Value) (n : Nat) : Prop where
  bp : BlkG W w.heap.size 27 vs
  be : BlkG W (w.heap.size + 1) 36 [.int .i64 n]
  hb : Below w.heap.size w W
theorem PaS.new (w : World) : PaS w ((w.alloc (.cells polZ.toArray 27)).alloc (.cells #[.int .i64 0] 36)) polZ 0 :=
  ⟨(BlkG.new w _ _).alloc _, by
    have := BlkG.new (w.alloc (.cells polZ.toArray 27)) 36 [.int .i64 0]
    rwa [World.size_alloc] at this, xalloc (xalloc (xrefl w) _) _⟩
theorem PaS.below {w W W' : World} {vs : List Value} {n : Nat} (h : PaS w W vs n) (hb : Below W.heap.size W W') : PaS w W' vs n := ⟨h.bp.below hb, h.be.below hb, h.hb.trans ⟨hb.os, hb.tape, hb.output, hb.size, fun k hk => hb.block k (Nat.lt_of_lt_of_le hk h.hb.size)⟩⟩
theorem PaS.belowG {w W W' : World} {vs : List Value} {n g : Nat} (h : PaS w W vs n) (hb : Below g W W') (hg : w.heap.size + 2 ≤ g) : PaS w W' vs n :=
  ⟨(hb.block _ (by omega)).trans h.bp, (hb.block _ (by omega)).trans h.be, h.hb.trans ⟨hb.os, hb.tape, hb.output, hb.size, fun k hk => hb.block k (by omega)⟩⟩
theorem cleared_any (g : Nat) (vs : List Value) (hl : vs.length = 3) (w : World) (hB : BlkG w g 27 vs) :
    Calls Tryz.prog 58 #[.pointer (some ⟨g, 0, none⟩)] w fun e w' => e = .returned (.tuple #[]) ∧ BlkG w' g 27 polZ ∧ Only (· = g) w w' := by
  have hB := Lib.hid hB
  go_enter Tryz.func58, Tryz.ntmps58
  go_wp2_with (refine wpList_store_blkG rfl 27 _ _ rfl g rfl 27 vs polZ hB.out rfl (by rw [hl]; rfl) (by kernel_rfl) (by decide) ?_; intro w2 hB2 ho2)
  go_end0
  exact ⟨rfl, hB2, ho2⟩
set_option maxRecDepth 100000 in
set_option maxHeartbeats 4000000 in
theorem caughtP_panicking (w W : World) (n : Nat) (h : PaS w W polZ 0) :
    CallsD Tryz.prog 40 #[.pointer (some ⟨w.heap.size + 1, 0, none⟩), .func (.func 58) #[] #[.pointer (some ⟨w.heap.size, 0, none⟩)]] (.panicking (errP n)) W fun e u' w' =>
      e = .returned (.tuple #[]) ∧ u' = .panicking (errD n) ∧ PaS w w' polZ n := by
  have hta : ∀ w, (Instr.typeAssert (.iface 36 (.int .i64 n)) 20 36 false).run Tryz.prog w = .ok (.int .i64 n) w := fun _ => by kernel_rfl
  have hc := h.be.cell 0 (by simp)
  simp only [List.getElem_cons_zero] at hc
  have hz := h.be.free 0
  have ho1 : Only (· = w.heap.size + 1) W (W.setCell ⟨w.heap.size + 1, 0, none⟩ (.int .i64 n)) := (Only.refl _ _).setCell _ _ rfl
  have hbp := h.bp.only ho1 (by omega)
  have hbe := h.be.set 0 (.int .i64 n)
  have hcl := Lib.hid ((cleared_any w.heap.size polZ rfl _ hbp).mono fun e w' h' => (⟨h'.1, h'.2.1, hbe.only h'.2.2 (by omega), h'.2.2.below (ho1.below h.hb h.hb.size (by rintro k rfl; omega)) (Nat.le_trans h.hb.size ho1.size) (by rintro k rfl; exact Nat.le_refl _)⟩ : e = .returned (.tuple #[]) ∧ PaS w w' polZ n))
  clear hbp hbe ho1 h
  refine callsD_of_wpS Tryz.func40 rfl fun c₀ cs hu => ?_
  apply wpS_seq
  apply wpS_region
  simp [wpOpsS, go_sem, recoverD, hu, Tryz.ntmps40, Exit.thenS, errP]
  refine wpS_of_wp ?_
  go_wp2_with (go_at_call 58; refine hcl.out.mono ?_; rintro e w2 ⟨rfl, h2⟩)
  simp [bodyPostS, results, Tryz.results40, errD, errP, h2]
theorem results_pol {P : Program} {fn : Func} {p r : Tmp} {ty t2 : TypeId} (h : fn.results = #[.cell p ty, .cell r t2]) (tmps : Array Value) (w : World) (b b2 : Nat) (u v : Value)
    (hp : tmps.getD p undef = .pointer (some ⟨b, 0, none⟩)) (hu : (loadVar ty ⟨b, 0, none⟩).run P w = .ok u w)
    (hr : tmps.getD r undef = .pointer (some ⟨b2, 0, none⟩)) (hv : (loadVar t2 ⟨b2, 0, none⟩).run P w = .ok v w) :
    (results fn tmps).run P w = .ok (.tuple #[u, v]) w := by
  have hp' : tmps[p]?.getD undef = .pointer (some ⟨b, 0, none⟩) := by simpa using hp
  have hr' : tmps[r]?.getD undef = .pointer (some ⟨b2, 0, none⟩) := by simpa using hr
  simp [results, h, hp', hr', asAddr, Sem.run_bind, hu, hv]
theorem PaS.loadE {w W : World} {vs : List Value} {n : Nat} (h : PaS w W vs n) : (loadVar 36 ⟨w.heap.size + 1, 0, none⟩).run Tryz.prog W = .ok (.int .i64 n) W := by
  have := h.be.cell 0 (by simp)
  simp only [List.getElem_cons_zero] at this
  simp [go_sem, this]
theorem PaS.loadP {w W : World} {vs : List Value} {n : Nat} (h : PaS w W vs n) (hl : vs.length = 3) : (loadVar 27 ⟨w.heap.size, 0, none⟩).run Tryz.prog W = .ok (.agg vs.toArray) W :=
  run_loadVar_row W w.heap.size 27 27 _ (0, 0) _ h.bp Tryz.underlying27 rfl (by simp only [List.size_toArray]; rw [hl]; kernel_rfl)
/-- How the call ends. -/
def PaPost (s : List UInt8) (w : World) (e : Ending) (w' : World) : Prop := (∃ a c b d, e = .returned (.tuple #[polV (parseQ s) a c b d, .int .i64 (parseN s)]) ∧ PolAt w' (parseQ s) a c b d) ∧ Below w.heap.size w w'
theorem noneP_at (W : World) : PolAt W noneP none 0 none 0 := ⟨RowsAt.none, RowsAt.none, ⟨fun x hx => (by cases hx), fun x hx => (by cases hx)⟩⟩
theorem PaPost.bad {s : List UInt8} {n : Nat} {w W : World} (h : parseF s = .error n) (hP : PaS w W polZ n) : PaPost s w (.returned (.tuple #[.agg polZ.toArray, .int .i64 n])) W := by
  obtain ⟨h1, h2⟩ := parse_bad h
  unfold PaPost
  rw [h1, h2]
  exact ⟨⟨none, 0, none, 0, rfl, noneP_at W⟩, hP.hb⟩
theorem lenP_ok {p : PolN} (h : p.Ok) : (∀ x ∈ p.clears, (clearC x).length = 21) ∧ ∀ x ∈ p.rels, (relC x).length = 22 := ⟨fun x hx => clearC_len (h.adrC hx), fun x hx => relC_len (h.adrR hx)⟩
theorem RdE.at {W : World} {g : Nat} {p : PolN} {n : Nat} (h : RdE W g p n) : ∃ al cl a c b d, BlkG W g 115 (rdC (.slice al n cl) p.dflt (.slice a p.clears.length c) (.slice b p.rels.length d)) ∧ PolAt W p a c b d ∧ W.ownsRow g 65 21 (.slice a p.clears.length c) p.clears.length (p.clears.flatMap clearC) ∧ W.ownsRow g 67 22 (.slice b p.rels.length d) p.rels.length (p.rels.flatMap relC) := by
  obtain ⟨al, cl, vc, vr, hB, hc, hr⟩ := h.out
  obtain ⟨a, c, rfl, h1⟩ := own_rows hc (lenP_ok h.ok).1
  obtain ⟨b, d, rfl, h2⟩ := own_rows hr (lenP_ok h.ok).2
  exact ⟨al, cl, a, c, b, d, hB, ⟨h1, h2, h.ok⟩, hc, hr⟩
end Go.Proofs.YthpallkphamobaaGreatDoor
namespace Go.Proofs.YthpallkphamobaaGreatDoor
open Go.RowKit Go.Shelf

theorem linesP_step (q : PolN) (first : Bool) (x : List UInt8) (r : List (List UInt8)) : linesP q first (x :: r) = (lineF q first (splS 32 x)).bind fun q' => linesP q' false r := rfl
theorem line_size {q p : PolN} {first : Bool} {l : List (List UInt8)} (h : lineF q first l = some p) : p.clears.length ≤ q.clears.length + 1 ∧ p.rels.length ≤ q.rels.length + 1 := by
  have ht : ∀ {o : Option (PolN × List (List UInt8))}, endF o = some p → (∃ r, o = some (p, r)) := fun {o} h => by
    unfold endF at h
    cases o with
    | none => cases h
    | some x =>
      simp only [Option.bind_some] at h
      by_cases hx : x.2 = []
      · rw [if_pos hx] at h; cases h; exact ⟨x.2, rfl⟩
      · rw [if_neg hx] at h; cases h
  cases l with
  | nil => cases first <;> cases h
  | cons y ws =>
    cases first with
    | true =>
      rw [line_first] at h
      by_cases hy : y = wDefault
      · rw [if_pos hy] at h
        obtain ⟨r, hr⟩ := ht h
        match ws, hr with
        | x :: r', hr =>
          have hr : (parseP x).map _ = some (p, r) := hr
          cases hp : parseP x with
          | none => rw [hp] at hr; cases hr
          | some d => rw [hp] at hr; cases hr; exact ⟨by simp, by simp⟩
      · rw [if_neg hy] at h; cases h
    | false =>
      rw [line_nextF] at h
      obtain ⟨r, hr⟩ := ht h
      unfold takeF at hr
      by_cases h1 : y = wClear
      · rw [if_pos h1] at hr
        unfold takeC at hr
        by_cases h2 : q.rels = []
        · rw [if_pos h2] at hr
          match ws, hr with
          | a :: x :: r', hr =>
            have hr : (addrF a).bind _ = some (p, r) := hr
            cases ha : addrF a with
            | none => rw [ha] at hr; cases hr
            | some b =>
              rw [ha] at hr
              have hr : (parseP x).map _ = some (p, r) := hr
              cases hp : parseP x with
              | none => rw [hp] at hr; cases hr
              | some d => rw [hp] at hr; cases hr; exact ⟨by simp, by simp⟩
        · rw [if_neg h2] at hr; cases hr
      · rw [if_neg h1] at hr
        by_cases h2 : y = wRelease
        · rw [if_pos h2] at hr
          match ws, hr with
          | a :: n :: x :: r', hr =>
            have hr : (addrF a).bind _ = some (p, r) := hr
            cases ha : addrF a with
            | none => rw [ha] at hr; cases hr
            | some b =>
              rw [ha] at hr
              have hr : (numF n).bind _ = some (p, r) := hr
              cases hn : numF n with
              | none => rw [hn] at hr; cases hr
              | some k =>
                rw [hn] at hr
                have hr : (parseP x).map _ = some (p, r) := hr
                cases hp : parseP x with
                | none => rw [hp] at hr; cases hr
                | some d => rw [hp] at hr; cases hr; exact ⟨by simp, by simp⟩
        · rw [if_neg h2] at hr; cases hr
theorem cutS_any (s : List UInt8) (w : World) (hs : s.length ≤ 65536) : Calls Tryz.prog 60 #[.string ⟨s.toArray⟩, .string ⟨#[10]⟩] w fun e w' => e = .returned (.tuple #[.string ⟨(Lib.trimSuffix s [10]).toArray⟩, .bool (Lib.hasSuffix s [10])]) ∧ w = w' :=
  (Tryz.strings_CutSuffix ⟨s.toArray⟩ ⟨#[10]⟩ w (by show s.toArray.size ≤ _; simp; omega)).mono fun e w' h => ⟨h.1, h.2.symm⟩
theorem RdE.below {W W' : World} {g : Nat} {p : PolN} {n : Nat} (h : RdE W g p n) (hb : Below W.heap.size W W') : RdE W' g p n := by
  obtain ⟨a, c, vc, vr, hB, hc, hr⟩ := h.out
  exact ⟨⟨a, c, vc, vr, hB.below hb, own_belowV hc hb, own_belowV hr hb⟩, h.ok⟩
theorem range_belowP {w w' : World} {b o : Nat} {vs : List Value} (h : w.rangeAt b o vs) (hb : Below w.heap.size w w') : w'.rangeAt b o vs := fun j v hj => cbel hb (h j v hj)
/-- The rows of lines that are read, one by one. -/
theorem row_keep {W W' : World} {g : Nat} {a : Option Addr} {vs : List Value} (h : RowV W a vs) (hs : ∀ y, a = some y → StrB W y.block) (hb : BelowS g W W') : RowV W' a vs := fun i hi => by
  obtain ⟨b, o, e, hc⟩ := h i hi
  exact ⟨b, o, e, (World.cell?_of_block (a := ⟨b, o + i, none⟩) (hb.s b (hs _ e))).trans hc⟩
set_option maxRecDepth 100000 in
set_option maxHeartbeats 16000000 in
theorem parseP_any (s : List UInt8) (w : World) (hT : TabP w) (hs63 : s.length ≤ 9223372036854775807) :
    Calls Tryz.prog 29 #[.string ⟨s.toArray⟩] w (PaPost s w) := by
  have hmf' : ∀ (fn : Fn) (first cap : Array Value) (w : World), (Instr.makeFunc fn first cap).run Tryz.prog w = .ok (.func fn first cap) w := fun _ _ _ _ => rfl
  have hsz : (⟨s.toArray⟩ : ByteArray).size = s.length := by show s.toArray.size = _; simp
  have h0 := Lib.hid (PaS.new w)
  have hs0 : Hid (((w.alloc (.cells polZ.toArray 27)).alloc (.cells #[.int .i64 0] 36)).heap.size = w.heap.size + 2) := Lib.hid (by rw [World.size_alloc, World.size_alloc])
  have hmt := Lib.hid must_true
  have hmf := Lib.hid must_false
  unfold polZ at h0 hs0
  by_cases hlong : 65536 < s.length
  · have hlI : ¬ (s.length : Int) ≤ 65536 := by omega
    have hfin := Lib.hid (parse_longP hlong)
    clear hT
    go_enter_defers Tryz.func29, Tryz.ntmps29
    go_wp2_with (go_at_call 59; refine (hmf.out 3 _).mono ?_; rintro e w3 ⟨rfl, rfl⟩)
    refine leaves_cons (f := 40) (args := #[.pointer (some ⟨w.heap.size + 1, 0, none⟩), .func (.func 58) #[] #[.pointer (some ⟨w.heap.size, 0, none⟩)]]) (by simp) (by simp [go_sem]) ?_
    refine (caughtP_panicking w _ 3 h0.out).mono ?_
    rintro e u' w'' ⟨rfl, rfl, h7⟩
    exact ⟨_, results_pol (p := 2) (r := 3) rfl _ _ w.heap.size (w.heap.size + 1) _ _ rfl (h7.loadP rfl) rfl h7.loadE, PaPost.bad hfin.out h7⟩
  · have hlI : (s.length : Int) ≤ 65536 := by omega
    have hl : s.length ≤ 65536 := by omega
    have hcs := fun W => cutS_any s W hl
    by_cases h10 : s.getLast? = some 10
    · rw [suf_trim h10, suf_last, h10] at hcs
      simp only [decide_true] at hcs
      replace hcs := Lib.hid hcs
      have hpl := Lib.hid (parse_lines hlong h10)
      have hrl : s.dropLast.length ≤ 65536 := by rw [List.length_dropLast]; omega
      generalize s.dropLast = t at *
      obtain ⟨L, hL⟩ : ∃ L, Hid (L = splS 10 t) := ⟨_, Lib.hid rfl⟩
      have hsp : Hid (∀ W, TabP W → Calls Tryz.prog 61 #[.string ⟨t.toArray⟩, .string ⟨#[10]⟩] W fun e w' => (∃ a k, e = .returned (.slice a L.length k) ∧ L.length ≤ k ∧ k ≤ 1000000 ∧ Hid (RowV w' a (L.map strL)) ∧ Hid (∀ y, a = some y → StrB w' y.block)) ∧ Below W.heap.size W w') := Lib.hid fun W h => by
        have := split_anyP 10 t W hrl h
        rw [← hL.out] at this
        exact this
      have hLn : L.length ≤ 65537 := by have := (spl_sizeP 10 t).1; rw [hL.out]; omega
      have hLw : Hid (∀ x ∈ L, x.length ≤ 65536) := Lib.hid fun x hx => by rw [hL.out] at hx; exact Nat.le_trans ((spl_sizeP 10 t).2 x hx) hrl
      rw [← hL.out] at hpl
      have hrd : Hid (∀ W : World, RdE (W.alloc (.cells #[.slice none 0 0, .int .u64 0, .slice none 0 0, .slice none 0 0] 115)) W.heap.size noneP 0) := Lib.hid fun W => ⟨⟨none, 0, _, _, BlkG.new W _ _, World.ownsRow_nil _ _ _ _, World.ownsRow_nil _ _ _ _⟩, ⟨fun x hx => (by cases hx), fun x hx => (by cases hx)⟩⟩
      have hTl := hT.lt
      have hT1 := Lib.hid (hT.below h0.out.hb)
      clear hlong h10 hT
      go_enter_defers Tryz.func29, Tryz.ntmps29
      go_upto_region 6 with (first
        | (go_at_call 59; first | (refine (hmt.out 3 _).mono ?_; rintro e w3 ⟨rfl, rfl⟩) | (refine (hmt.out 190 _).mono ?_; rintro e w3 ⟨rfl, rfl⟩))
        | (go_at_call 60; refine (hcs.out _).mono ?_; rintro e w2 ⟨rfl, rfl⟩))
      have hE4 := Lib.hid (hrd.out ((w.alloc (.cells #[.int .u64 0, .slice none 0 0, .slice none 0 0] 27)).alloc (.cells #[.int .i64 0] 36)))
      have hP4 := Lib.hid (h0.out.below (xalloc (xrefl _) (.cells #[.slice none 0 0, .int .u64 0, .slice none 0 0, .slice none 0 0] 115)))
      have hT4 := Lib.hid (hT1.out.below (xalloc (xrefl _) (.cells #[.slice none 0 0, .int .u64 0, .slice none 0 0, .slice none 0 0] 115)))
      have hs4 : ((((w.alloc (.cells #[.int .u64 0, .slice none 0 0, .slice none 0 0] 27)).alloc (.cells #[.int .i64 0] 36)).alloc (.cells #[.slice none 0 0, .int .u64 0, .slice none 0 0, .slice none 0 0] 115))).heap.size = w.heap.size + 3 := by rw [World.size_alloc, World.size_alloc, World.size_alloc]
      rw [World.size_alloc, World.size_alloc] at hE4
      clear h0 hs0 hrd hT1 hcs
      generalize (((w.alloc (.cells #[.int .u64 0, .slice none 0 0, .slice none 0 0] 27)).alloc (.cells #[.int .i64 0] 36)).alloc (.cells #[.slice none 0 0, .int .u64 0, .slice none 0 0, .slice none 0 0] 115)) = w4 at *
      obtain ⟨g, hgd⟩ : ∃ g, Hid (g = w.heap.size + 1 + 1) := ⟨_, Lib.hid rfl⟩
      rw [← hgd.out] at hE4 ⊢
      have hg2 : w.heap.size + 2 ≤ g := by rw [hgd.out]; exact Nat.le_refl _
      have hg8 : 8 ≤ g := by omega
      go_wp2_with (go_at_call 61; refine (hsp.out _ hT4.out).mono ?_; rintro e w5 ⟨⟨a5, k5, rfl, hk1, hk2, hr5, hst5⟩, hb5⟩; have hE5 := Lib.hid (RdE.below hE4.out hb5); have hP5 := Lib.hid (hP4.out.below hb5); have hT5 := Lib.hid (hT4.out.below hb5); clear hE4 hP4 hT4 hb5)
      go_loopw [26] (fun iv wx => ∃ i : Nat, iv = .int .i64 i ∧ i ≤ L.length ∧ ∃ (q : PolN) (n : Nat), Hid (RdE wx g q n) ∧ Hid (linesP noneP true L = linesP q (decide (i = 0)) (L.drop i)) ∧ q.clears.length ≤ i ∧ q.rels.length ≤ i ∧ Hid (BelowS g w5 wx)) (fun iv _ => L.length - (intOf iv).toNat)
      case atStart => exact ⟨0, rfl, by omega, noneP, 0, hE5, Lib.hid rfl, Nat.le_refl _, Nat.le_refl _, Lib.hid (BelowS.refl _ _)⟩
      case round =>
        clear hE5
        obtain ⟨i, rfl, hi, q, n, hE, hlp, hc1, hc2, hb⟩ := hrel
        have hPr := Lib.hid (hP5.out.belowG hb.out.b hg2)
        have hTr := hT5.out.belowG hb.out.b hg8
        by_cases hlt : i < L.length
        · have hltI : (i : Int) < L.length := by omega
          obtain ⟨b, o, rfl, hc⟩ := row_keep hr5.out hst5.out hb.out i (by simpa using hlt)
          have hx := hLw.out L[i] (List.getElem_mem hlt)
          have hln := Lib.hid (line_any g q n L[i] i wr hE.out hTr hg8 hx (by omega) (by omega))
          have hdr : L.drop i = L[i] :: L.drop (i + 1) := List.drop_eq_getElem_cons hlt
          rw [hdr, linesP_step] at hlp
          rw [List.getElem_map] at hc
          generalize L[i] = x at *
          have hc0 : wr.cell? ⟨b, o + i, none⟩ = some (.string ⟨x.toArray⟩) := hc
          cases hlf : lineF q (decide (i = 0)) (splS 32 x) with
          | none =>
            have hfin : Hid (parseF s = .error 190) := Lib.hid (by rw [hpl.out, hlp.out, hlf]; rfl)
            rw [hlf] at hln
            clear hlp hlf hE hTr hc hdr
            go_wp2_with (go_at_call 62; refine hln.out.mono ?_; rintro e w6 ⟨h6, -, hb6⟩; obtain rfl := h6 rfl; have hP6 := Lib.hid (hPr.out.belowG hb6.b hg2))
            refine leaves_cons (f := 40) (args := #[.pointer (some ⟨w.heap.size + 1, 0, none⟩), .func (.func 58) #[] #[.pointer (some ⟨w.heap.size, 0, none⟩)]]) (by simp) (by simp [go_sem]) ?_
            refine (caughtP_panicking w _ 190 hP6.out).mono ?_
            rintro e u' w'' ⟨rfl, rfl, h7⟩
            exact ⟨_, results_pol (p := 2) (r := 3) rfl _ _ w.heap.size (w.heap.size + 1) _ _ rfl (h7.loadP rfl) rfl h7.loadE, PaPost.bad hfin.out h7⟩
          | some q' =>
            obtain ⟨hz1, hz2⟩ := line_size hlf
            have hlp' : Hid (linesP noneP true L = linesP q' (decide (i + 1 = 0)) (L.drop (i + 1))) := Lib.hid (by rw [hlp.out, hlf]; simp)
            rw [hlf] at hln
            clear hlp hlf hE hTr hc hdr
            go_wp2_with (go_at_call 62; refine hln.out.mono ?_; rintro e w6 ⟨-, h6, hb6⟩; obtain ⟨rfl, hE6⟩ := h6 _ rfl; replace hE6 := Lib.hid hE6; replace hb6 := Lib.hid (hb.out.trans hb6))
            exact ⟨⟨i + 1, by go_num, by omega, q', 0, hE6, hlp', by omega, by omega, hb6⟩, by simp [intOf]; omega⟩
        · obtain rfl : i = L.length := by omega
          have hlq : linesP noneP true L = some q := by rw [hlp.out, List.drop_length]; rfl
          obtain ⟨al, cl, a, c, b, d, hB, hPo, hoc, how⟩ := hE.out.at
          have hok := Lib.hid hE.out.ok
          have hri := Lib.hid (right_ends q a b c d wr hPo (by omega) (by omega) (checkF q) rfl)
          have hra : Hid (wr.rangeAt g 1 [labV q.dflt, .slice a q.clears.length c, .slice b q.rels.length d]) := Lib.hid fun j u hj => by
            have hj3 : j < 3 := (List.getElem?_eq_some_iff.1 hj).1
            refine blk_cell hB (i := 1 + j) ?_
            match j, hj3 with
            | 0, _ => exact hj
            | 1, _ => exact hj
            | 2, _ => exact hj
          have hgl : g < wr.heap.size := hB.lt
          replace hB := Lib.hid hB
          replace hoc := Lib.hid hoc
          replace how := Lib.hid how
          clear hPo hE hlp hTr
          unfold polV at hri
          have hpl2 := hpl.out
          rw [hlq] at hpl2
          clear hlq
          by_cases hck : checkF q = 0
          · have hfin : Hid (parseF s = .ok q) := Lib.hid (by rw [hpl2]; simp [hck])
            rw [if_pos hck] at hri
            clear hck hpl2
            go_wp2_with (first
              | (refine wpList_load_mid rfl 27 _ rfl g 1 rfl [labV q.dflt, .slice a q.clears.length c, .slice b q.rels.length d] _ hra.out Tryz.underlying27 rfl (by kernel_rfl) ?_)
              | (go_at_call 42; refine hri.out.mono ?_; rintro e w6 ⟨rfl, hb6⟩; have hs6 := hb6.size; have hP6 := hPr.out.below hb6; have hB6 := Lib.hid (hB.out.below hb6); have hoc6 := Lib.hid (own_belowV hoc.out hb6); have how6 := Lib.hid (own_belowV how.out hb6); replace hra := Lib.hid (range_belowP hra.out hb6); have hbp6 := Lib.hid hP6.bp; have hbe6 := Lib.hid hP6.be; have hbw6 := Lib.hid hP6.hb)
              | (refine wpList_store_blkG rfl 27 _ _ rfl w.heap.size rfl 27 polZ [labV q.dflt, .slice a q.clears.length c, .slice b q.rels.length d] hbp6.out rfl rfl (by kernel_rfl) rfl ?_; intro w7 hB7 ho7; have hbe7 := hbe6.out.only ho7 (by omega); have ce7 := hbe7.cell 0 (by simp); simp only [List.getElem_cons_zero] at ce7; have fe7 := hbe7.free 0; replace hbe7 := Lib.hid hbe7; replace hB7 := Lib.hid hB7; replace ho7 := Lib.hid ho7))
            refine leaves_cons (f := 40) (args := #[.pointer (some ⟨w.heap.size + 1, 0, none⟩), .func (.func 58) #[] #[.pointer (some ⟨w.heap.size, 0, none⟩)]]) (by simp) (by simp [go_sem]) ?_
            refine (caught_idle ⟨w.heap.size + 1, 0, none⟩ _ _).mono ?_
            rintro e u' w'' ⟨rfl, rfl, rfl⟩
            have ho8 : Only (· = w.heap.size + 1) w7 (w7.setCell ⟨w.heap.size + 1, 0, none⟩ (.int .i64 0)) := (Only.refl _ _).setCell _ _ rfl
            have hw7 : w.heap.size + 2 ≤ w6.heap.size := by omega
            have h8 : PaS w (w7.setCell ⟨w.heap.size + 1, 0, none⟩ (.int .i64 0)) [labV q.dflt, .slice a q.clears.length c, .slice b q.rels.length d] 0 :=
              ⟨hB7.out.only ho8 (by omega), hbe7.out.set 0 _, ho8.below (ho7.out.below hbw6.out hbw6.out.size (by rintro k rfl; exact Nat.le_refl _)) (Nat.le_trans hbw6.out.size ho7.out.size) (by rintro k rfl; omega)⟩
            have hc7 := own_onlyG hoc6.out ho7.out fun k hk e => own_neG hoc6.out hbp6.out (by decide) (by rw [hk, e])
            have hr7 := own_onlyG how6.out ho7.out fun k hk e => own_neG how6.out hbp6.out (by decide) (by rw [hk, e])
            have hc8 := own_onlyG hc7 ho8 fun k hk e => own_neG hc7 hbe7.out (by decide) (by rw [hk, e])
            have hr8 := own_onlyG hr7 ho8 fun k hk e => own_neG hr7 hbe7.out (by decide) (by rw [hk, e])
            obtain ⟨p1, p2⟩ := parse_ok hfin.out
            refine ⟨_, results_pol (p := 2) (r := 3) rfl _ _ w.heap.size (w.heap.size + 1) _ _ rfl (h8.loadP rfl) rfl h8.loadE, ?_⟩
            unfold PaPost
            rw [p1, p2]
            obtain ⟨a', c', e1, hA⟩ := own_rows hc8 (lenP_ok hok.out).1
            obtain ⟨b', d', e2, hD⟩ := own_rows hr8 (lenP_ok hok.out).2
            cases e1
            cases e2
            exact ⟨⟨a, c, b, d, rfl, hA, hD, hok.out⟩, h8.hb⟩
          · have hfin : Hid (parseF s = .error (checkF q)) := Lib.hid (by rw [hpl2]; simp [hck])
            rw [if_neg hck] at hri
            clear hck hpl2
            generalize checkF q = nq at *
            go_wp2_with (first
              | (refine wpList_load_mid rfl 27 _ rfl g 1 rfl [labV q.dflt, .slice a q.clears.length c, .slice b q.rels.length d] _ hra.out Tryz.underlying27 rfl (by kernel_rfl) ?_)
              | (go_at_call 42; refine hri.out.mono ?_; rintro e w6 ⟨rfl, hb6⟩; have hP6 := Lib.hid (hPr.out.below hb6)))
            refine leaves_cons (f := 40) (args := #[.pointer (some ⟨w.heap.size + 1, 0, none⟩), .func (.func 58) #[] #[.pointer (some ⟨w.heap.size, 0, none⟩)]]) (by simp) (by simp [go_sem]) ?_
            refine (caughtP_panicking w _ nq hP6.out).mono ?_
            rintro e u' w'' ⟨rfl, rfl, h7⟩
            exact ⟨_, results_pol (p := 2) (r := 3) rfl _ _ w.heap.size (w.heap.size + 1) _ _ rfl (h7.loadP rfl) rfl h7.loadE, PaPost.bad hfin.out h7⟩
    · rw [suf_last] at hcs
      simp only [h10, decide_false] at hcs
      replace hcs := Lib.hid hcs
      have hfin := Lib.hid (parse_openP hlong h10)
      clear hT
      generalize Lib.trimSuffix s [10] = t at *
      go_enter_defers Tryz.func29, Tryz.ntmps29
      go_wp2_with (first
        | (go_at_call 59; first | (refine (hmt.out 3 _).mono ?_; rintro e w3 ⟨rfl, rfl⟩) | (refine (hmf.out 190 _).mono ?_; rintro e w3 ⟨rfl, rfl⟩))
        | (go_at_call 60; refine (hcs.out _).mono ?_; rintro e w2 ⟨rfl, rfl⟩))
      refine leaves_cons (f := 40) (args := #[.pointer (some ⟨w.heap.size + 1, 0, none⟩), .func (.func 58) #[] #[.pointer (some ⟨w.heap.size, 0, none⟩)]]) (by simp) (by simp [go_sem]) ?_
      refine (caughtP_panicking w _ 190 h0.out).mono ?_
      rintro e u' w'' ⟨rfl, rfl, h7⟩
      exact ⟨_, results_pol (p := 2) (r := 3) rfl _ _ w.heap.size (w.heap.size + 1) _ _ rfl (h7.loadP rfl) rfl h7.loadE, PaPost.bad hfin.out h7⟩
end Go.Proofs.YthpallkphamobaaGreatDoor
