/- A run of acts in two parts: the plain law. -/
import Derived.Test.YtfnlniknclkeaaaDoorGJ
namespace Go.Proofs.YtfnlniknclkeaaaDoor
open Go.ChangeShapes Go.WideShapes Go.ChangeAt Go.RowKit
theorem actAt_take {xs : List Int} {k i j : Nat} (hi : i < k) (hj : j < 5) : actAt (xs.take (k * 5)) i j = actAt xs i j := by
  have : i * 5 + j < k * 5 := by omega
  simp [actAt, nth, this]
theorem actAt_drop (xs : List Int) (k i j : Nat) : actAt (xs.drop (k * 5)) i j = actAt xs (k + i) j := by
  have e : k * 5 + (i * 5 + j) = (k + i) * 5 + j := by omega
  simp [actAt, nth, e]
theorem runTo_take (xs : List Int) (h : HD) (k : Nat) : ∀ {i : Nat}, i ≤ k → runTo (xs.take (k * 5)) h i = runTo xs h i
  | 0, _ => rfl
  | i + 1, hi => by
    simp only [runTo]
    rw [runTo_take xs h k (i := i) (by omega), actAt_take (by omega) (by omega), actAt_take (by omega) (by omega), actAt_take (by omega) (by omega), actAt_take (by omega) (by omega), actAt_take (by omega) (by omega)]
theorem numsTo_take (xs : List Int) (h : HD) (k : Nat) : ∀ {i : Nat}, i ≤ k → numsTo (xs.take (k * 5)) h i = numsTo xs h i
  | 0, _ => rfl
  | i + 1, hi => by
    simp only [numsTo, actNum]
    rw [numsTo_take xs h k (i := i) (by omega), runTo_take xs h k (i := i) (by omega), actAt_take (by omega) (by omega), actAt_take (by omega) (by omega), actAt_take (by omega) (by omega), actAt_take (by omega) (by omega), actAt_take (by omega) (by omega)]
theorem runTo_drop (xs : List Int) (h : HD) (k : Nat) : ∀ i : Nat, runTo (xs.drop (k * 5)) (runTo xs h k) i = runTo xs h (k + i)
  | 0 => rfl
  | i + 1 => by
    show (doAct _ _ _ _ _ _).1 = runTo xs h (k + i + 1)
    rw [runTo_drop xs h k i, actAt_drop, actAt_drop, actAt_drop, actAt_drop, actAt_drop]; rfl
theorem numsTo_drop (xs : List Int) (h : HD) (k : Nat) : ∀ i : Nat, numsTo xs h k ++ numsTo (xs.drop (k * 5)) (runTo xs h k) i = numsTo xs h (k + i)
  | 0 => by simp [numsTo]
  | i + 1 => by
    show _ ++ (numsTo _ _ i ++ [actNum _ _ i]) = numsTo xs h (k + i + 1)
    rw [← List.append_assoc, numsTo_drop xs h k i]
    show _ ++ [(doAct _ _ _ _ _ _).2] = _
    rw [runTo_drop xs h k i, actAt_drop, actAt_drop, actAt_drop, actAt_drop, actAt_drop]; rfl
end Go.Proofs.YtfnlniknclkeaaaDoor
