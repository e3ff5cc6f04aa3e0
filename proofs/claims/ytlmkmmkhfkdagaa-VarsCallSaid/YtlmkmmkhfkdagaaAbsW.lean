/- The abstract layer, part W: functions that hand out a row of values, one by one (iterators). -/
import Derived.Test.YtlmkmmkhfkdagaaAbsV
set_option linter.unusedVariables false
set_option linter.unusedSimpArgs false
namespace Go.Abs
open Go.RowKit

/-- Who is handed the values: J n M h: n values are taken; M: the objects that he may turn; the heap is h. JX: he has had enough. -/
structure Taker where
  J : Nat → (Nat → Prop) → Heap → Prop
  JX : Nat → (Nat → Prop) → Heap → Prop
  stJ : ∀ n M h h', J n M h → (∀ j, M j → look j h' = look j h) → J n M h'
  stX : ∀ n M h h', JX n M h → (∀ j, M j → look j h' = look j h) → JX n M h'

/-- What the taker's function does with each value. -/
def Taker.Ok (t : Taker) (P : Program) (y : AV) (xs : List (List AV)) : Prop :=
  ∀ n x M h nx, xs[n]? = some x → t.J n M h → (∀ j, M j → j < nx) → ∀ K : AV → Heap → Nat → Prop,
    (∀ b h' nx' M', nx ≤ nx' → (∀ j, M' j → M j ∨ (nx ≤ j ∧ j < nx')) → (∀ j, j < nx → ¬ M j → look j h' = look j h) → (b = true → t.J (n + 1) M' h') → (b = false → t.JX (n + 1) M' h') → K (.sc (.bool b)) h' nx') → ACallV P y x h nx K

/-- What holds behind it all. -/
def Taker.End (t : Taker) (xs : List (List AV)) (M0 : Nat → Prop) (h0 : Heap) (nx0 : Nat) (K : AV → Heap → Nat → Prop) : Prop :=
  ∀ n h' nx' M', nx0 ≤ nx' → (∀ j, M' j → M0 j ∨ (nx0 ≤ j ∧ j < nx')) → (∀ j, j < nx0 → ¬ M0 j → look j h' = look j h0) → ((n = xs.length ∧ t.J n M' h') ∨ (n ≤ xs.length ∧ t.JX n M' h')) → K (.tup []) h' nx'
end Go.Abs
