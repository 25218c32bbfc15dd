/- Short names; no condition. -/
import Derived.Lib.Hide
import GoSem.Claim
namespace Go.Proofs.YtijkdabmegbcjaaGreatDoor
theorem zA {α : Type _} (l : List α) (i : Nat) (a : α) : l.toArray.setIfInBounds i a = (l.set i a).toArray := List.setIfInBounds_toArray l i a
theorem zB {α : Type _} {x : α} {xs : List α} {i : Nat} {a : α} : (x :: xs).set (i + 1) a = x :: xs.set i a := rfl
theorem zC {α : Type _} {x : α} {xs : List α} {a : α} : (x :: xs).set 0 a = a :: xs := rfl
theorem zD {α : Type _} (as : List α) : [] ++ as = as := rfl
theorem zE {α : Type _} {a : α} {as bs : List α} : a :: as ++ bs = a :: (as ++ bs) := rfl
theorem qh {p : Prop} (h : p) : Go.RowKit.Hid p := h
end Go.Proofs.YtijkdabmegbcjaaGreatDoor
