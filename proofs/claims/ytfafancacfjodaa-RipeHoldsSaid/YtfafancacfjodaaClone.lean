/- slices.Clone of bytes. -/
import Derived.Test.YtfafancacfjodaaCat
import Derived.Test.YtfafancacfjodaaRowNew
namespace Go.Proofs.Ytfafancacfjodaa
open Go.RowKit

set_option maxHeartbeats 1000000 in
theorem cloneB_any (a : Option Addr) (c : Nat) (zs : List Int) (w : World) (hl : zs.length ≤ 140737488355328) (hr : RowAt .u8 w a zs) (hn : a = none → c = 0) :
    Calls Try.prog 29 #[.slice a zs.length c] w fun e w' => ∃ v, e = .returned v ∧ w'.ownsRow w.heap.size 5 1 v zs.length (zs.map (Value.int .u8)) ∧ Below w.heap.size w w' := by
  obtain ⟨i0, hi, hz0, hz1, hz2⟩ := info_parts Try.infoU8
  have q22 : ∀ (w : World) (a : Option Addr) (n c n' c' : Nat), (binOp .eql 22 (.slice a n c) (.slice none n' c')).run Try.prog w = .ok (.bool a.isNone) w := fun w a n c n' c' => Lib.run_eql_slice_nil w _ _ a n c n' c' Try.underlying22
  cases a with
  | none =>
    have h0 : zs = [] := by
      cases zs with
      | nil => rfl
      | cons x l => obtain ⟨b, o, h1, _⟩ := hr 0 (by simp); cases h1
    subst h0
    obtain rfl := hn rfl
    go_enter Try.func29, Try.ntmps29
    go_wp2
    go_ret
    exact ⟨_, rfl, World.ownsRow_nil _ _ _ _, xrefl _⟩
  | some x =>
    have hown0 := own_empty w 5
    have hr2 := hr.below (xalloc (xrefl w) (.cells #[] 5))
    replace hr2 := Lib.hid hr2
    clear hr
    have h63 : 0 + zs.length ≤ maxLen := by unfold maxLen; omega
    go_enter Try.func29, Try.ntmps29
    go_wp2_with (at_builtin; refine wpList_append_row _ rfl _ _ 22 rfl w.heap.size 5 i0 (.int .u8 0) 1 Try.underlying22 hi hz0 hz1 hz2 rfl _ _ _ rfl hown0 (some x) c .u8 zs rfl hn hr2.out h63 (by omega) (by simp) ?_; intro v1 w1 ho1 hg1)
    go_ret
    have hb1 : Below w.heap.size w w1 := (xalloc (xrefl w) _).grown hg1 (by simp) (fun k hk => (hown0.lt k hk).1)
    exact ⟨_, rfl, by simpa using ho1, hb1⟩
end Go.Proofs.Ytfafancacfjodaa
