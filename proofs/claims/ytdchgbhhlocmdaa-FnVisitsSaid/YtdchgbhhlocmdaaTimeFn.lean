/- The greatest delay of visits in an order: the plain law. -/
import Derived.Test.YtdchgbhhlocmdaaDueFn
namespace Go.Proofs.Ytdchgbhhlocmdaa
open Go.ChangeShapes Go.WideShapes Go.ChangeAt Go.RowKit

/-- the day and the greatest delay behind the first k visits of an order -/
def delayD (xs L : List Int) : Nat → Int × Int
  | 0 => (0, 0)
  | k + 1 => ((delayD xs L k).1 + dayV xs (nth L k).toNat, max (delayD xs L k).2 ((delayD xs L k).1 + dayV xs (nth L k).toNat - dueV xs (nth L k).toNat))
def delayL (xs L : List Int) : Int := (delayD xs L L.length).2
def InR (n : Nat) (L : List Int) : Prop := ∀ k, k < L.length → 0 ≤ nth L k ∧ nth L k < n
theorem delayD_bd {n : Nat} {xs L : List Int} (h : visitsOk n xs = true) (hL : InR n L) : ∀ k, k ≤ L.length → 0 ≤ (delayD xs L k).1 ∧ (delayD xs L k).1 ≤ 100 * k ∧ 0 ≤ (delayD xs L k).2 ∧ (delayD xs L k).2 ≤ 100 * k
  | 0, _ => by simp [delayD]
  | k + 1, hk => by
    obtain ⟨a, b, c, d⟩ := delayD_bd h hL k (by omega)
    have e := hL k (by omega)
    have q := visitsOk_at h (k := (nth L k).toNat) (by omega)
    simp only [delayD]
    omega
theorem delayL_bd {n : Nat} {xs L : List Int} (h : visitsOk n xs = true) (hL : InR n L) : 0 ≤ delayL xs L ∧ delayL xs L ≤ 100 * L.length := (delayD_bd h hL _ (Nat.le_refl _)).2.2
theorem dueP_in (n : Nat) (xs : List Int) : InR n (dueP n xs) := fun _ hk => dueP_mem.1 (nth_in hk)
def canBe (n : Nat) (xs : List Int) : Bool := visitsOk n xs && decide (delayL xs (dueP n xs) = 0)
theorem canBe_f {n : Nat} {xs : List Int} (h : visitsOk n xs = false) : canBe n xs = false := by simp [canBe, h]
theorem canBe_t {n : Nat} {xs : List Int} (h : visitsOk n xs = true) : canBe n xs = (delayL xs (dueP n xs) == 0) := by
  simp only [canBe, h, Bool.true_and]; rfl
end Go.Proofs.Ytdchgbhhlocmdaa
