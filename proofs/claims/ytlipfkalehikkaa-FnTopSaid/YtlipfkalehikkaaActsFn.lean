/- Drawn acts as data. -/
import Derived.Test.YtlipfkalehikkaaGJ
import Derived.Test.YtlipfkalehikkaaDrawList
namespace Go.Proofs.Ytlipfkalehikkaa
open Go.ChangeShapes Go.WideShapes Go.ChangeAt Go.RowKit

/-- n valid acts -/
structure ActsD (n : Nat) (xs : List Int) : Prop where
  len : xs.length = n * 5
  ok : ∀ i, i < n → actOk (actAt xs i 0) (actAt xs i 1) (actAt xs i 2) (actAt xs i 3) (actAt xs i 4) = true
theorem actAt_ext {xs zs : List Int} {i j : Nat} (h : i * 5 + 5 ≤ xs.length) (hj : j < 5) : actAt (xs ++ zs) i j = actAt xs i j := nth_appl (by omega)
theorem ActsD.push {n : Nat} {xs : List Int} (h : ActsD n xs) {k a b c d : Int} (e : actOk k a b c d = true) : ActsD (n + 1) (xs ++ [k, a, b, c, d]) := by
  obtain ⟨hl, ho⟩ := h
  refine ⟨by simp; omega, fun i hi => ?_⟩
  rcases Nat.lt_or_ge i n with q | q
  · rw [actAt_ext (by omega) (by decide), actAt_ext (by omega) (by decide), actAt_ext (by omega) (by decide), actAt_ext (by omega) (by decide), actAt_ext (by omega) (by decide)]
    exact ho i q
  · obtain rfl : i = n := by omega
    have f0 : actAt (xs ++ [k, a, b, c, d]) i 0 = k := nth_appr (j := 0) (by omega)
    have f1 : actAt (xs ++ [k, a, b, c, d]) i 1 = a := nth_appr (j := 1) (by omega)
    have f2 : actAt (xs ++ [k, a, b, c, d]) i 2 = b := nth_appr (j := 2) (by omega)
    have f3 : actAt (xs ++ [k, a, b, c, d]) i 3 = c := nth_appr (j := 3) (by omega)
    have f4 : actAt (xs ++ [k, a, b, c, d]) i 4 = d := nth_appr (j := 4) (by omega)
    rw [f0, f1, f2, f3, f4]; exact e
theorem actsD_nil : ActsD 0 [] := ⟨rfl, fun i hi => absurd hi (by omega)⟩
/-- the fields of a valid act are small -/
theorem actOk_small {k a b c d : Int} (e : actOk k a b c d = true) : (1 ≤ k ∧ k ≤ 5) ∧ (0 ≤ a ∧ a ≤ 1000) ∧ (0 ≤ b ∧ b ≤ 10000) ∧ (0 ≤ c ∧ c ≤ 1000) ∧ (0 ≤ d ∧ d ≤ 20) := by
  rcases actOk_kind e with rfl | rfl | rfl | rfl | rfl <;> (simp [actOk, inB] at e; omega)
theorem ok_1 {a b c d : Int} (h : (0 ≤ a ∧ a ≤ 11) ∧ (0 ≤ b ∧ b ≤ 1000) ∧ (0 ≤ c ∧ c ≤ 1000) ∧ (0 ≤ d ∧ d ≤ 20)) : actOk 1 a b c d = true := by simp [actOk, inB]; omega
theorem ok_2 {a : Int} (h : 1 ≤ a ∧ a ≤ 1000) : actOk 2 a 0 0 0 = true := by simp [actOk, inB]; omega
theorem ok_3 {a b : Int} (h : (0 ≤ a ∧ a ≤ 11) ∧ (0 ≤ b ∧ b ≤ 10000)) : actOk 3 a b 0 0 = true := by simp [actOk, inB]; omega
theorem ok_4 {a : Int} (h : 0 ≤ a ∧ a ≤ 11) : actOk 4 a 0 0 0 = true := by simp [actOk, inB]; omega
theorem ok_5 {a b : Int} (h : (0 ≤ a ∧ a ≤ 11) ∧ (0 ≤ b ∧ b ≤ 11)) : actOk 5 a b 0 0 = true := by simp [actOk, inB]; omega
end Go.Proofs.Ytlipfkalehikkaa
