/- LettersFor: the contracts in the form of the law. -/
import Derived.Test.YtdchgbhhlocmdaaLetters
import Derived.Test.YtdchgbhhlocmdaaLetMark
namespace Go.Proofs.Ytdchgbhhlocmdaa
open Go.ChangeShapes Go.WideShapes Go.ChangeAt Go.RowKit

theorem LetO.read {lo hi : Nat} {w : World} {v : Value} {ls : List (Int × List Int)} (h : LetO lo hi w v ls) (b : LetB ls) : Letters w v ls := by
  obtain ⟨vs, h⟩ := h
  exact h.reads (by have := b.n; omega) (fun i hi => by have := b.c i hi; omega)
theorem pickO_len (D os : List Int) (o : Int) : (pickO D os o).length ≤ D.length := List.length_filter_le _ _
theorem postTo_c (D os : List Int) : ∀ (o i : Nat), i < (postTo D os o).length → (lCopies (postTo D os o) i).length ≤ D.length
  | 0, i, h => by simp [postTo] at h
  | o + 1, i, h => by
    have ih := postTo_c D os o
    rcases Nat.eq_zero_or_pos (pickO D os o).length with q | q
    · rw [postTo_no q] at h ⊢
      exact ih i h
    · rw [postTo_yes q] at h ⊢
      rw [List.length_append] at h
      rcases Nat.lt_or_ge i (postTo D os o).length with z | z
      · rw [(ls_app z).2]; exact ih i z
      · obtain rfl : i = (postTo D os o).length := by simp at h; omega
        rw [ls_last.2]; exact pickO_len _ _ _
theorem lettersFor_b (n : Nat) (xs os aff : List Int) (h : aff.length ≤ 1048576) : LetB (lettersFor n xs os aff) := by
  unfold lettersFor
  split
  · have := postTo_len (diffL aff) os 21
    refine ⟨by omega, fun i hi => ?_⟩
    have := postTo_c (diffL aff) os 21 i hi
    have := diffL_len aff
    omega
  · exact ⟨by simp, fun i hi => absurd hi (by simp)⟩
theorem implLettersV (v : Value) (n : Nat) (xs : List Int) (u : Value) (os : List Int) (va : Value) (aff : List Int) (w : World) (h : Recs 3 w v n xs) (hO : Ints w u os) (hA : Ints w va aff) (hnA : NilOk va) (h20 : aff.length ≤ 1048576) :
    Calls Try.prog 37 #[v, u, va] w fun e w' => ∃ z, e = .returned z ∧ LetO w.heap.size w'.heap.size w' z (lettersFor n xs os aff) ∧ Below w.heap.size w w' :=
  (implLettersFor v n xs u os va aff w h hO hA hnA h20).mono fun _ _ ⟨_, _, q1, q2, q3⟩ => ⟨_, q1, q2, q3⟩
theorem specLettersV (v : Value) (n : Nat) (xs : List Int) (u : Value) (os : List Int) (va : Value) (aff : List Int) (w : World) (h : Recs 3 w v n xs) (hO : Ints w u os) (hA : Ints w va aff) (_ : NilOk va) (_ : aff.length ≤ 1048576) :
    Calls Try.prog 35 #[v, u, va] w fun e w' => ∃ z, e = .returned z ∧ LetO w.heap.size w'.heap.size w' z (lettersFor n xs os aff) ∧ Below w.heap.size w w' :=
  (specLettersFor v n xs u os va aff w h hO hA).mono fun _ _ ⟨_, _, q1, q2, q3⟩ => ⟨_, q1, q2, q3⟩
end Go.Proofs.Ytdchgbhhlocmdaa
