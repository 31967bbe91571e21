/- The walks of FirstGood, in the program and in the reference. -/
import Derived.Test.YtfnlniknclkeaaaAffected
import Derived.Test.YtfnlniknclkeaaaGB
import Derived.WalkSpells
namespace Go.Proofs.Ytfnlniknclkeaaa
open Go.ChangeShapes Go.WideShapes Go.ChangeAt Go.RowKit

/-- the first of a list that is not in another one, or -1 -/
def firstOut (A : List Int) : List Int → Int
  | [] => -1
  | x :: r => if x ∈ A then firstOut A r else x
def firstGood (n : Nat) (xs ms : List Int) (k b s : Int) : Int := if affected n xs ms b s = [] then -1 else firstOut (affected n xs ms b s) (aboveL n xs k)
theorem firstOut_hit (A : List Int) : ∀ (L : List Int) (k : Nat), allTo (fun j => decide (nth L j ∈ A)) k = true → k < L.length → ¬ nth L k ∈ A → firstOut A L = nth L k
  | [], k, _, h, _ => by simp at h
  | x :: r, 0, _, _, h => by
    have h : ¬ x ∈ A := h
    show firstOut A (x :: r) = x
    simp only [firstOut]; rw [if_neg h]
  | x :: r, k + 1, ha, hk, h => by
    have h0 : x ∈ A := by simpa [nth] using allTo_at ha (Nat.zero_lt_succ k)
    have := firstOut_hit A r k (allTo_of fun j hj => by simpa [nth] using allTo_at ha (show j + 1 < k + 1 by omega)) (by simpa using hk) (by simpa [nth] using h)
    simp only [firstOut]; rw [if_pos h0, this]; simp [nth]
theorem firstOut_none (A : List Int) : ∀ (L : List Int), allTo (fun j => decide (nth L j ∈ A)) L.length = true → firstOut A L = -1
  | [], _ => rfl
  | x :: r, ha => by
    have h0 : x ∈ A := by simpa [nth] using allTo_at ha (k := 0) (by simp)
    have := firstOut_none A r (allTo_of fun j hj => by simpa [nth] using allTo_at ha (k := j + 1) (by simpa using hj))
    simp only [firstOut]; rw [if_pos h0, this]

end Go.Proofs.Ytfnlniknclkeaaa
