/- Texts of this claim, merged; no condition. -/
import Derived.Test.YtbicfaiabpcgfaaGreatDoorD18
import Derived.Test.YtbicfaiabpcgfaaGreatDoorD15
import Derived.Test.YtbicfaiabpcgfaaGreatDoorD14
import Derived.Test.YtbicfaiabpcgfaaGreatDoorD06
set_option linter.all false
namespace Go.Proofs.YtbicfaiabpcgfaaGreatDoor
open Go.RowKit Go.Shelf

theorem sortB_any (b cap : Nat) (T : TypeId) (rest : List Value) (zs : List Int) (w : World) (hS : SrtAt w b T rest zs) (hl : zs.length ≤ 1000000) :
    Calls Tryz.prog 67 #[.slice (some ⟨b, 0, none⟩) zs.length cap] w fun e w' => e = .returned (.tuple #[]) ∧ SrtP b T rest zs w w' := by
  have hb := Lib.hid fun W => Tryz.bits_Len (zs.length : Int) W (by omega) (by omega)
  have hk : Lib.bitLen zs.length ≤ 100 := by
    by_cases h0 : zs.length = 0
    · rw [h0]; decide
    · have h2 := bitLen_two zs.length h0 (by omega)
      rcases Nat.lt_or_ge 100 (Lib.bitLen zs.length) with h3 | h3
      · have := Nat.pow_le_pow_right (show 0 < 2 by decide) (show 31 ≤ Lib.bitLen zs.length by omega)
        have e : (2 : Nat) ^ 31 = 2147483648 := by decide
        omega
      · exact h3
  have hb2 : ∀ W, Calls Tryz.prog 86 #[.int .u64 zs.length] W fun e w' => e = .returned (.int .i64 (Lib.bitLen zs.length : Nat)) ∧ w' = W := fun W => by simpa using hb.out W
  clear hb
  generalize Lib.bitLen zs.length = k at *
  have hpd := Lib.hid (show Calls Tryz.prog 85 #[.slice (some ⟨b, 0, none⟩) zs.length cap, .int .i64 0, .int .i64 zs.length, .int .i64 k] w fun e w' => e = .returned (.tuple #[]) ∧ SrtP b T rest zs w w' from pdq_any zs.length b cap 0 0 zs.length k T rest zs w hS rfl (by omega) (Nat.le_refl _) (by omega) hk hl)
  replace hb2 := Lib.hid hb2
  clear hS
  go_enter Tryz.func67, Tryz.ntmps67
  go_wp2_with (first
    | (go_at_call 86; refine (hb2.out _).mono ?_; rintro e w1 ⟨rfl, rfl⟩)
    | (go_at_call 85; refine hpd.out.mono ?_; rintro e w1 ⟨rfl, hP⟩))
  go_end0
  exact ⟨rfl, hP⟩
theorem own_srt {w : World} {g : Nat} {T : TypeId} {cur : Array Value} {xs : List Int} {cap : Nat} (hg : w.heap[g]? = some (.cells cur T (0, 0))) (h3 : cur.size = cap * 1) (h4 : cur.toList.take (xs.length * 1) = xs.map (Value.int .u8)) : SrtAt w g T (cur.toList.drop xs.length) xs := by
  unfold SrtAt BlkG
  rw [Nat.mul_one] at h4
  rw [← h4, List.take_append_drop]
  exact hg
theorem srt_own {w : World} {B g cap : Nat} {T : TypeId} {cur : Array Value} {xs ys : List Int} (hB : B ≤ g) (hY : SrtAt w g T (cur.toList.drop xs.length) ys) (hl : ys.length = xs.length) (h1 : xs.length ≤ cap) (h2 : cap ≤ maxLen) (h3 : cur.size = cap * 1) :
    w.ownsRow B T 1 (.slice (some ⟨g, 0, none⟩) xs.length cap) xs.length (ys.map (Value.int .u8)) := by
  refine ⟨by simp [hl], .inr ⟨g, cap, _, rfl, hB, hY, h1, h2, ?_, ?_⟩⟩
  · simp; omega
  · simp [← hl]
end Go.Proofs.YtbicfaiabpcgfaaGreatDoor
namespace Go.Proofs.YtbicfaiabpcgfaaGreatDoor
open Go.RowKit Go.Shelf
attribute [local go_sem] Oper.semAt_some

theorem ccinfo : (Tryz.prog.info? 5).map (fun i => (i.zero, i.size, i.bytes)) = some (some (Value.int .u8 0), 1, 1) := by kernel_rfl
/-- What is asked of an iterator over integers that is gone over to its end. -/
structure SeqIn (gf : Nat) (lb : Array Value) (Rd : Nat → Prop) (S Sp : List Int → Prop) (N : Nat) (w : World) : Prop where
  en : ∀ args w, (callFunc gf args).run Tryz.prog w = .ok (.enter gf args) w
  seq : ∀ W, Below w.heap.size w W → SeqP Tryz.prog gf lb (fun x : Int => #[.int .u8 x]) Rd S Sp N false W
  rd : ∀ k, Rd k → k < w.heap.size
  le : N ≤ 1000000
theorem SeqIn.below {gf : Nat} {lb : Array Value} {Rd : Nat → Prop} {S Sp : List Int → Prop} {N : Nat} {w w' : World} (h : SeqIn gf lb Rd S Sp N w) (hb : Below w.heap.size w w') : SeqIn gf lb Rd S Sp N w' :=
  ⟨h.en, fun W hW => h.seq W (xtrans hb hW), fun k hk => Nat.lt_of_lt_of_le (h.rd k hk) hb.size, h.le⟩
set_option maxRecDepth 100000 in
set_option maxHeartbeats 1000000 in
theorem ccappendSeq_any {gf : Nat} {lb : Array Value} {Rd : Nat → Prop} {S Sp : List Int → Prop} {N : Nat} (w : World) (h : SeqIn gf lb Rd S Sp N w) (hSp : ∀ pre, Sp pre → pre.length ≤ N) (hSl : ∀ xs, S xs → xs.length ≤ N) :
    Calls Tryz.prog 84 #[.slice none 0 0, .func (.func gf) #[] lb] w fun e w' => ∃ v xs, e = .returned v ∧ S xs ∧ w'.ownsRow w.heap.size 5 1 v xs.length (xs.map (Value.int .u8)) ∧ Below w.heap.size w w' := by
  obtain ⟨i0, hi, hz0, hz1, hz2⟩ := info_parts ccinfo
  have hle := h.le
  have hrd := h.rd
  have hbw : Below w.heap.size w (w.alloc (.cells #[.slice none 0 0] 32)) := xalloc (xrefl w) _
  have h1 := Lib.hid (h.below hbw)
  have h00 : AI (α := Int) 32 5 (Value.int .u8) w.heap.size w (fun _ => False) [] (w.alloc (.cells #[.slice none 0 0] 32)) :=
    ⟨.slice none 0 0, World.alloc_heap_new w _, ⟨rfl, .inl ⟨rfl, rfl⟩⟩, (fun g h => by cases h), hbw⟩
  replace h00 := Lib.hid h00
  replace hSp := Lib.hid hSp
  clear h
  refine (callsIn_wide (n := 0)).1 ?_
  refine callsIn_of_wp_marks Tryz.func84 rfl trivial ?_ rfl
  simp only [Tryz.ntmps84, List.size_toArray, List.length_cons, List.length_nil, Nat.reduceAdd, Nat.reduceSub, Array.replicate_succ, Array.replicate_zero, List.push_toArray, List.append_toArray, List.nil_append, List.cons_append]
  refine wpIn_wide.2 ?_
  go_wp2
  have hsz : (w.alloc (.cells #[.slice none 0 0] 32)).heap.size = w.heap.size + 1 := World.size_alloc _ _
  generalize w.alloc (.cells #[.slice none 0 0] 32) = w1 at h1 h00 hsz hbw ⊢
  have hst := ai_stable (α := Int) (ST := 32) (ET := 5) (enc := Value.int .u8) (w := w) (B := w.heap.size) w1.heap.size (by omega) (by omega)
  refine (wpIn_wide (n := 0)).1 ?_
  refine wp_rangeP (gf := gf) (lb := lb) rfl h1.out.en (encs := fun x : Int => #[.int .u8 x]) (Rd := Rd)
    (S := S) (Sp := Sp) (N := N) (inf := false) h1.out.rd h1.out.seq (fun x => rfl) (AI 32 5 (Value.int .u8) w.heap.size w) (fun _ _ _ _ => False) hst (fun _ _ _ _ _ _ h _ _ _ => h) h00.out (fun h => by cases h) ?round ?done ?stop
  case round =>
    rintro l1 O pre m W1 hOl hO ⟨v, g1, g2, g3, g4⟩ hlen hsp
    gi_wp2
    refine ⟨Keep.refl _ _, fun W2 hon => ?_⟩
    have hl4 : w1.heap.size ≤ l1 := (hO l1 hOl).1
    have hlW := (hO l1 hOl).2
    have n1 : ¬ (w.heap.size = l1) := by omega
    have c1 : W2.heap[w.heap.size]? = some (.cells #[v] 32) := (hon.same _ (Array.getElem?_eq_some_iff.1 g1).1 n1).trans g1
    have o1 := ai_only g2 hon (fun g hg e => g3 g hg (by rw [e]; exact hOl))
    have b1 := hon.below g4 g4.size (by rintro i rfl; omega)
    have hs2 := hon.size
    have hOs : Hid (∀ k, O k → w.heap.size < k ∧ k < W2.heap.size) := Lib.hid fun k h => by have := hO k h; omega
    have hwl : w.heap.size < W2.heap.size := by omega
    replace g3 := Lib.hid g3
    clear hon g1 g2 g4 hO
    have cv := boxed_cell c1
    replace o1 := Lib.hid o1
    replace b1 := Lib.hid b1
    replace c1 := Lib.hid c1
    have hbW : Below W2.heap.size W2 (W2.alloc (.cells #[.int .u8 m] 5)) := xalloc (xrefl W2) _
    have c3 := (hbW.block _ hwl).trans c1.out
    have o3 := own_keep o1.out hbW
    have b3 := xtrans b1.out hbW
    have hq1 : (W2.alloc (.cells #[.int .u8 m] 5)).cell? ⟨W2.heap.size, 0, none⟩ = some (.int .u8 m) := boxed_cell (World.alloc_heap_new W2 _)
    have hne := boxed_ne o3 c3 (by decide)
    have hmid := fun (V5 : Value) (W5 : World) hg5 c5 o5 hvb => ai_next (ST := 32) (ET := 5) (V5 := V5) (W5 := W5) (show 5 ≠ 32 by decide) m hrd (Nat.le_refl _) o1.out hbW b3 hwl hg5 c5 o5 hvb g3.out hOs.out
    obtain ⟨W3, hW3⟩ : ∃ W3, W2.alloc (.cells #[.int .u8 m] 5) = W3 := ⟨_, rfl⟩
    rw [hW3] at hmid hq1 b3 o3 c3 hbW
    replace hmid := Lib.hid hmid
    replace hbW := Lib.hid hbW
    gi_wp2_with (refine wpListIn_append_blk W3 rfl _ _ 32 rfl w.heap.size 5 i0 (.int .u8 0) 1 Tryz.underlying32 hi hz0 hz1 hz2 rfl v pre.length _ rfl o3 ⟨W2.heap.size, 0, none⟩ 1 1 [.int .u8 m] rfl rfl (by intro j u hj; match j, hj with | 0, hj => (injection hj with hj; subst hj; exact hq1)) (by intro u hu; rw [List.mem_singleton.1 hu]; rfl) (by unfold maxLen; omega) (by omega) b3.size ?_; intro v5 W5 ho5 hg5 hvb5; have c5 : W5.heap[w.heap.size]? = some (.cells #[v] 32) := (hg5.block _ (Array.getElem?_eq_some_iff.1 c3).1 (fun e => hne e.symm)).trans c3; have cc5 := boxed_cell c5; have cf5 := boxed_free c5; obtain ⟨a5, e5, rfl⟩ := own_slice ho5; have hfin := hmid.out _ W5 hg5 c5 ho5 hvb5; replace hfin := Lib.hid hfin; clear ho5 hg5 hvb5 c5)
    exact ⟨hfin.out.2, hfin.out.1⟩
  case done =>
    rintro D xs O W hD hOD hO hS ⟨v, g1, g2, g3, g4⟩ hK
    have cv := boxed_cell g1
    have hKl := (Array.getElem?_eq_some_iff.1 hK).1
    replace hK := Lib.hid hK
    replace g1 := Lib.hid g1
    replace g2 := Lib.hid g2
    replace g4 := Lib.hid g4
    go_wp2
    have hput := (Only.refl (· = D) W).putObj D (.deferred none) rfl
    refine ⟨by simp [Act.put], .inl ⟨_, _, rfl, run_takeDeferred hK.out, ?_⟩⟩
    refine ⟨_, results_tmp rfl _ _ _, v, xs, rfl, hS, ai_only g2.out hput (fun g hg e => ?_), hput.below g4.out g4.out.size (by rintro i rfl; omega)⟩
    exact g3 g hg (by rw [e]; exact hOD)
  case stop =>
    rintro D c pre O W hD hOD hO _ h
    exact h.elim
theorem cccollect_any {gf : Nat} {lb : Array Value} {Rd : Nat → Prop} {S Sp : List Int → Prop} {N : Nat} (w : World) (h : SeqIn gf lb Rd S Sp N w) (hSp : ∀ pre, Sp pre → pre.length ≤ N) (hSl : ∀ xs, S xs → xs.length ≤ N) :
    Calls Tryz.prog 66 #[.func (.func gf) #[] lb] w fun e w' => ∃ v xs, e = .returned v ∧ S xs ∧ w'.ownsRow w.heap.size 5 1 v xs.length (xs.map (Value.int .u8)) ∧ Below w.heap.size w w' := by
  have ha := Lib.hid (ccappendSeq_any w h hSp hSl)
  clear h hSp hSl
  go_enter Tryz.func66, Tryz.ntmps66
  go_wp2_with (go_at_call 84; refine ha.out.mono ?_; rintro e w1 ⟨v, xs, rfl, hS, hown, hb⟩; replace hown := Lib.hid hown; replace hb := Lib.hid hb; replace hS := Lib.hid hS)
  go_ret
  exact ⟨v, xs, rfl, hS.out, hown.out, hb.out⟩

/-- Sorted: a row of the call's own, of the same bag. -/
theorem ccsorted_any {gf : Nat} {lb : Array Value} {Rd : Nat → Prop} {S Sp : List Int → Prop} {N : Nat} (w : World) (h : SeqIn gf lb Rd S Sp N w) (hSp : ∀ pre, Sp pre → pre.length ≤ N) (hSl : ∀ xs, S xs → xs.length ≤ N) (hne : ∀ xs, S xs → xs ≠ []) :
    Calls Tryz.prog 54 #[.func (.func gf) #[] lb] w fun e w' => (∃ (v : Value) (xs ys : List Int), e = .returned v ∧ S xs ∧ ys.Perm xs ∧ w'.ownsRow w.heap.size 5 1 v ys.length (ys.map (Value.int .u8))) ∧ Below w.heap.size w w' := by
  have hc := Lib.hid (cccollect_any w h hSp hSl)
  have hle := h.le
  have hSl' := Lib.hid hSl
  have hne' := Lib.hid hne
  clear h hSp hSl hne
  go_enter Tryz.func54, Tryz.ntmps54
  go_upto_region 2 with (go_at_call 66; refine hc.out.mono ?_; rintro e w1 ⟨v, xs, rfl, hS, hown, hb⟩; have hlen := hSl'.out xs hS; have hxs := hne'.out xs hS; replace hS := Lib.hid hS)
  rcases hown.2 with ⟨rfl, hz⟩ | ⟨gb, cap, cur, rfl, hbase, hgb, r1, r2, r3, r4⟩
  · exact absurd (List.eq_nil_of_length_eq_zero hz) hxs
  · have hA := own_srt hgb r3 r4
    have cS := Lib.hid (sortB_any gb cap 5 (cur.toList.drop xs.length) xs w1 hA (by omega))
    clear hA hxs
    replace hb := Lib.hid hb
    replace r4 := Lib.hid r4
    replace r3 := Lib.hid r3
    replace r2 := Lib.hid r2
    replace r1 := Lib.hid r1
    replace hown := Lib.hid hown
    replace hgb := Lib.hid hgb
    go_wp2_with (go_at_call 67; refine cS.out.mono ?_; rintro e w' ⟨rfl, hP⟩; replace hP := Lib.hid hP)
    go_ret
    obtain ⟨ys, hp, hY, ho⟩ := hP.out
    have hyl := hp.length_eq
    refine ⟨⟨_, xs, ys, rfl, hS.out, hp, ?_⟩, ho.below hb.out hb.out.size (by rintro i rfl; exact hbase)⟩
    rw [hyl]
    exact srt_own hbase hY hyl r1.out r2.out r3.out
end Go.Proofs.YtbicfaiabpcgfaaGreatDoor
namespace Go.Proofs.YtbicfaiabpcgfaaGreatDoor
open Go.RowKit Go.Shelf

theorem tab_look {K : List Nat} {c : Nat} (h : c ∈ K) : findI (c : Int) (tabL K) = some (infoV (infoN c)) := by
  unfold tabL
  induction K with
  | nil => cases h
  | cons d K ih =>
    rw [List.map_cons, findI]
    by_cases e : c = d
    · subst e; rw [if_pos rfl]
    · rw [if_neg (by simp; omega)]
      exact ih ((List.mem_cons.1 h).resolve_left e)
theorem zeroInfo (w : World) : (zeroValue 25).run Tryz.prog w = .ok (infoV noInfo) w := by kernel_rfl
set_option maxRecDepth 100000 in
set_option maxHeartbeats 4000000 in
theorem named1_any (x : InfoN) (s : List UInt8) (sb : Nat) (w : World) (h : w.cell? ⟨sb, 0, none⟩ = some (.string ⟨s.toArray⟩)) :
    Calls Tryz.prog 32 #[infoV x, .pointer (some ⟨sb, 0, none⟩)] w fun e w' => e = .returned (.bool (x.name == s)) ∧ Below w.heap.size w w' := by
  have hB := BlkG.new w 25 (infoC x)
  have hc := hB.cell 0 (by show 0 < 6; omega)
  have hb := xalloc (xrefl w) (.cells (infoC x).toArray 25)
  have hlt := cell_lt h
  have hc2 : (w.alloc (.cells (infoC x).toArray 25)).cell? ⟨sb, 0, none⟩ = some (.string ⟨s.toArray⟩) := (World.cell?_of_block (hb.block sb hlt)).trans h
  simp only [infoC, List.getElem_cons_zero] at hc
  unfold infoV
  go_enter Tryz.func32, Tryz.ntmps32
  go_wp2
  go_ret
  exact ⟨rfl, hb⟩
theorem perm_natI {ys : List Int} {K : List Nat} (h : ys.Perm (natI K)) : ∃ Y : List Nat, Y.Perm K ∧ ys = natI Y := by
  refine ⟨ys.map Int.toNat, ?_, ?_⟩
  · have := h.map Int.toNat
    unfold natI at this
    rw [List.map_map] at this
    have e : (Int.toNat ∘ fun (n : Nat) => (n : Int)) = id := by funext n; simp
    have e2 : K.map (Int.toNat ∘ fun (n : Nat) => (n : Int)) = K := by rw [e, List.map_id]
    rw [← e2]; exact this
  · unfold natI
    rw [List.map_map]
    refine (List.map_id ys).symm.trans (List.map_congr_left fun z hz => ?_)
    obtain ⟨n, _, rfl⟩ := List.mem_map.1 ((h.mem_iff).1 hz)
    simp
theorem named_hit {c : Nat} {s : List UInt8} (hc : c < 256) (hn : namedN c = true) (h : ((infoN c).name == s) = true) : namedO s = some c := by
  rw [← eq_of_beq h]; exact named_name c hc hn
theorem named_out {Y : List Nat} {s : List UInt8} (hY : ∀ c, c ∈ Y ↔ c < 256 ∧ namedN c = true) (h : ∀ c ∈ Y, ((infoN c).name == s) = false) : namedO s = none := by
  cases hq : namedO s with
  | none => rfl
  | some c =>
    obtain ⟨h1, h2, h3⟩ := named_some hq
    have := h c ((hY c).2 ⟨h1, h2⟩)
    rw [h3] at this
    simp at this
set_option maxRecDepth 100000 in
set_option maxHeartbeats 8000000 in
theorem found_any (K : List Nat) (bm sb : Nat) (s : List UInt8) (w : World) (hK : TabG K) (hm : TabAt' w bm K) (hs : w.cell? ⟨sb, 0, none⟩ = some (.string ⟨s.toArray⟩)) :
    Calls Tryz.prog 30 #[.map (some bm), .func (.func 32) #[] #[.pointer (some ⟨sb, 0, none⟩)]] w fun e w' => e = .returned (.tuple #[.int .u8 ((namedO s).getD 0 : Nat), .bool (namedO s).isSome]) ∧ Below w.heap.size w w' := by
  have hk := Lib.hid (cbkeys_any bm w)
  have hml : bm < w.heap.size := (Array.getElem?_eq_some_iff.1 hm).1
  have hsl : sb < w.heap.size := cell_lt hs
  have hKl := hK.len
  have hb0 : Below w.heap.size w (w.alloc (.cells #[.map (some bm)] 66)) := xalloc (xrefl _) _
  have hne : K ≠ [] := fun e => by
    have := (hK.2 0).2 ⟨by omega, by decide⟩
    rw [e] at this; cases this
  have hin : SeqIn 68 #[.pointer (some ⟨w.heap.size, 0, none⟩)] (fun k => k = bm) (fun xs => xs.Perm ((tabL K).map (·.1))) (fun pre => ∃ seen : List Nat, seen.Nodup ∧ (∀ j ∈ seen, j < (tabL K).length) ∧ pre = cbkeyAt (tabL K) seen) (tabL K).length (w.alloc (.cells #[.map (some bm)] 66)) :=
    ⟨enters_of Tryz.func68 (by kernel_rfl) rfl, fun W hW => cbkeys_seq (tabL K) _ bm W (cbel hW (Box.new w _ _).cell) ((xtrans hb0 hW).block bm hml |>.trans hm), fun k hk => by rw [hk, World.size_alloc]; omega, by rw [tabL_len]; omega⟩
  have hss := Lib.hid (ccsorted_any (w.alloc (.cells #[.map (some bm)] 66)) hin (fun pre ⟨seen, h1, h2, h3⟩ => by rw [h3]; unfold cbkeyAt; rw [List.length_map]; exact seen_le h1 h2) (fun xs hx => by have := hx.length_eq; rw [List.length_map] at this; omega) (fun xs hx e => by have := hx.length_eq; rw [e, List.length_map, tabL_len] at this; exact hne (List.eq_nil_of_length_eq_zero this.symm)))
  have hcl := Lib.hid fun (c : Nat) W h => named1_any (infoN c) s sb W h
  have hlk := Lib.hid fun (c : Nat) (W : World) (hW : W.heap[bm]? = some (mapI .u8 (tabL K))) (hc : c ∈ K) => (show (Instr.lookup 66 (.map (some bm)) (.int .u8 c) false).run Tryz.prog W = .ok (infoV (infoN c)) W from by
    have := run_lookI Tryz.underlying66 Tryz.underlying5 zeroInfo (c : Int) W bm (tabL K) false hW
    rw [tab_look hc] at this
    exact this)
  clear hin
  replace hb0 := Lib.hid hb0
  replace hm := Lib.hid hm
  replace hs := Lib.hid hs
  go_enter Tryz.func30, Tryz.ntmps30
  go_wp2_with (first
    | (go_at_call 55; refine hk.out.mono ?_; rintro e w' ⟨rfl, rfl⟩)
    | (go_at_call 54; refine hss.out.mono ?_; rintro e w2 ⟨⟨v, xs, ys, rfl, hS, hp, hown⟩, hb2⟩; rw [tabL_keys] at hS; obtain ⟨Y, hYK, rfl⟩ := perm_natI (hp.trans hS); obtain ⟨ay, cy, rfl, hr, hn, hx, -⟩ := rowAt_own hown; rw [natI_len]; have hYl := hYK.length_eq; replace hr := Lib.hid hr; have hbb := Lib.hid (xtrans hb0.out hb2); clear hS hp hown hb2 hn hx))
  have hYm : Hid (∀ c, c ∈ Y ↔ c < 256 ∧ namedN c = true) := Lib.hid fun c => (hYK.mem_iff).trans (hK.2 c)
  have hYk : Hid (∀ c, c ∈ Y → c ∈ K) := Lib.hid fun c h => (hYK.mem_iff).1 h
  clear hYK hK
  have hw2s := hbb.out.size
  have hrefl2 : Hid (Below w2.heap.size w2 w2) := Lib.hid (xrefl w2)
  go_loopw [12] (fun iv wx => ∃ i : Nat, i ≤ Y.length ∧ iv = .int .i64 i ∧ Hid (∀ j, j < i → ((infoN (Y.getD j 0)).name == s) = false) ∧ Hid (Below w.heap.size w wx) ∧ Hid (Below w2.heap.size w2 wx)) (fun iv _ => Y.length - (intOf iv).toNat)
  case atStart => exact ⟨0, by omega, rfl, Lib.hid fun j h => by omega, hbb, hrefl2⟩
  case round =>
    clear hbb hrefl2
    obtain ⟨i, hi, rfl, hno, hb, hb2⟩ := hrel
    by_cases hlt : i < Y.length
    · have hltI : (i : Int) < Y.length := by omega
      obtain ⟨yb, yo, rfl, hc⟩ := (hr.out.below hb2.out) i (by rw [natI_len]; exact hlt)
      rw [natI_get] at hc
      have hgd : Y.getD i 0 = Y[i] := by simp [hlt]
      have hcY : Y[i] ∈ Y := List.getElem_mem hlt
      have hcn := (hYm.out Y[i]).1 hcY
      have hmW : Hid (wr.heap[bm]? = some (mapI .u8 (tabL K))) := Lib.hid ((hb.out.block bm hml).trans hm.out)
      have hlk2 := hlk.out Y[i] wr hmW.out (hYk.out _ hcY)
      have hcl2 := Lib.hid (hcl.out Y[i] wr (cbel hb.out hs.out))
      have hnx : Hid (((infoN Y[i]).name == s) = false → ∀ j, j < i + 1 → ((infoN (Y.getD j 0)).name == s) = false) := Lib.hid fun h j hj => by
        by_cases e : j = i
        · subst e; rw [hgd]; exact h
        · exact hno.out j (by omega)
      have hhit : Hid (((infoN Y[i]).name == s) = true → namedO s = some Y[i]) := Lib.hid fun h => named_hit hcn.1 hcn.2 h
      generalize Y[i] = c at *
      clear hgd hcY hcn hlk
      cases ht : ((infoN c).name == s) with
      | true =>
        have hq := hhit.out ht
        rw [ht] at hcl2
        replace ht := Lib.hid ht
        go_wp2_with (go_at_call 32; refine hcl2.out.mono ?_; rintro e w5 ⟨rfl, hb5⟩)
        go_ret2
        rw [hq]
        exact ⟨rfl, xtrans hb.out hb5⟩
      | false =>
        have hn2 := Lib.hid (hnx.out ht)
        rw [ht] at hcl2
        replace ht := Lib.hid ht
        go_wp2_with (go_at_call 32; refine hcl2.out.mono ?_; rintro e w5 ⟨rfl, hb5⟩; have hq5 := Lib.hid (xtrans hb.out hb5); replace hb5 := Lib.hid (xtrans hb2.out hb5))
        exact ⟨⟨i + 1, by omega, by go_num, hn2, hq5, hb5⟩, by simp [intOf] <;> omega⟩
    · obtain rfl : i = Y.length := by omega
      have hq : namedO s = none := named_out hYm.out fun c hc => by
        obtain ⟨j, hj, rfl⟩ := List.getElem_of_mem hc
        have := hno.out j hj
        simpa [hj] using this
      go_wp2
      go_ret2
      rw [hq]
      exact ⟨rfl, hb.out⟩
theorem tableE_any (w : World) : Calls Tryz.prog 31 #[] w fun e w' => (∃ K bm, e = .returned (.map (some bm)) ∧ TabAt' w' bm K ∧ TabG K ∧ w.heap.size ≤ bm) ∧ Below w.heap.size w w' :=
  (table_any w).mono fun e w' ⟨⟨K, h1, h2, h3⟩, h4⟩ => ⟨⟨K, _, h1, h2, h3, Nat.le_refl _⟩, h4⟩
set_option maxRecDepth 100000 in
set_option maxHeartbeats 2000000 in
theorem named_any (s : List UInt8) (w : World) : Calls Tryz.prog 11 #[.string ⟨s.toArray⟩] w fun e w' => e = .returned (.tuple #[.int .u8 ((namedO s).getD 0 : Nat), .bool (namedO s).isSome]) ∧ Below w.heap.size w w' := by
  have hS : (w.alloc (.cells #[.string ⟨s.toArray⟩] 9)).cell? ⟨w.heap.size, 0, none⟩ = some (.string ⟨s.toArray⟩) := (Box.new w _ _).cell
  have hb0 : Below w.heap.size w (w.alloc (.cells #[.string ⟨s.toArray⟩] 9)) := xalloc (xrefl w) _
  have ht := Lib.hid (tableE_any (w.alloc (.cells #[.string ⟨s.toArray⟩] 9)))
  replace hS := Lib.hid hS
  replace hb0 := Lib.hid hb0
  go_enter Tryz.func11, Tryz.ntmps11
  go_wp2_with (first
    | (go_at_call 31; refine ht.out.mono ?_; rintro e w1 ⟨⟨K, bm, rfl, hT, hK, -⟩, hb1⟩; have hf := Lib.hid (found_any K bm w.heap.size s w1 hK hT (cbel hb1 hS.out)); replace hb1 := Lib.hid (xtrans hb0.out hb1); clear hT hK)
    | (go_at_call 30; refine hf.out.mono ?_; rintro e w2 ⟨rfl, hb2⟩; replace hb2 := Lib.hid (xtrans hb1.out hb2)))
  go_ret2
  exact ⟨rfl, hb2.out⟩
end Go.Proofs.YtbicfaiabpcgfaaGreatDoor
