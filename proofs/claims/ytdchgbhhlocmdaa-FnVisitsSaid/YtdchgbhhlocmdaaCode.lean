/- The laws' readers of the drawn bytes. -/
import Derived.Test.YtdchgbhhlocmdaaDraw
namespace Go.Proofs.Ytdchgbhhlocmdaa
open Go.ChangeShapes Go.WideShapes Go.ChangeAt Go.RowKit

theorem big_any (v : Value) (bs : List Int) (w : World) (h : Bytes w v bs) : Calls Try.prog 27 #[v] w fun e w' => e = .returned (.bool (decide ((1048576 : Int) < bs.length))) ∧ w = w' := by
  obtain ⟨hl, ad, cap, rfl, hc⟩ := h
  clear hc
  go_enter Try.func27, Try.ntmps27
  go_wp2
  go_ret
  exact ⟨rfl, rfl⟩
theorem at_any (v : Value) (bs : List Int) (i : Nat) (w : World) (h : Bytes w v bs) (hi : i ≤ 100000) : Calls Try.prog 51 #[v, .int .i64 i] w fun e w' => ∃ x : Int, e = .returned (.int .i64 x) ∧ 0 ≤ x ∧ x ≤ 255 ∧ w = w' := by
  obtain ⟨hl, ad, cap, rfl, hc⟩ := h
  by_cases h0 : bs.length = 0
  · have h1 : ((bs.length : Int) == 0) = true := by rw [beq_iff_eq]; omega
    clear hc
    go_enter Try.func51, Try.ntmps51
    go_wp2
    go_ret
    exact ⟨0, rfl, by omega, by omega, rfl⟩
  · have h1 : ((bs.length : Int) == 0) = false := by rw [beq_eq_false_iff_ne]; omega
    obtain ⟨j, hj, hj2⟩ : ∃ j : Nat, ((i : Int) * 5 + 1) % (bs.length : Int) = (j : Int) ∧ j < bs.length := by
      have a := Int.emod_nonneg ((i : Int) * 5 + 1) (show (bs.length : Int) ≠ 0 by omega)
      have b := Int.emod_lt_of_pos ((i : Int) * 5 + 1) (show (0 : Int) < bs.length by omega)
      exact ⟨(((i : Int) * 5 + 1) % (bs.length : Int)).toNat, by omega, by omega⟩
    obtain ⟨b, o, rfl, e0, e1, e2⟩ := hc j hj2
    clear hc
    go_enter Try.func51, Try.ntmps51
    go_wp2
    go_ret
    exact ⟨_, rfl, e1, e2, rfl⟩
end Go.Proofs.Ytdchgbhhlocmdaa
