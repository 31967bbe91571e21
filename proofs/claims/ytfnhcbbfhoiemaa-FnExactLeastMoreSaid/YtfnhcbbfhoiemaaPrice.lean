/- The walks of ShortLimit, PriceOf, PriceAfterTare and GramsFor, in the program and in the reference, and of the laws that compare them. -/
import Derived.Test.YtfnhcbbfhoiemaaScalar
import Derived.Test.YtfnhcbbfhoiemaaPriceFn
import Derived.BigGuardPart
namespace Go.Proofs.Ytfnhcbbfhoiemaa
open Go.ChangeShapes Go.WideShapes Go.ChangeAt Go.RowKit

theorem specShortLimit (a : Int) (w : World) : Calls Try.prog 101 #[.int .i64 a] w fun e w' => e = .returned (.int .i64 (shortLimit a)) ∧ w = w' := by
  by_cases h : 10 ≤ a ∧ a ≤ 10000
  · obtain ⟨h1, h2⟩ := h
    have H : Hid (shortLimit a = (if a ≤ 100 then max 1 (a * 9 / 100) else if a ≤ 500 then max 1 (a * 6 / 100) else max 1 (a * 3 / 100))) := if_pos ⟨h1, h2⟩
    have hi := inB_t h1 h2
    by_cases h3 : a ≤ 100
    · go_enter Try.func101, Try.ntmps101
      go_wp2_with (go_at_call 77; refine (l01In_any _ _ _ _).mono ?_; rintro e w' ⟨rfl, rfl⟩)
      all_goals
        go_ret
        refine ⟨ret_int ?_, rfl⟩
        rw [H.out]
        omega
    · by_cases h4 : a ≤ 500
      all_goals
        go_enter Try.func101, Try.ntmps101
        go_wp2_with (go_at_call 77; refine (l01In_any _ _ _ _).mono ?_; rintro e w' ⟨rfl, rfl⟩)
        all_goals
          go_ret
          refine ⟨ret_int ?_, rfl⟩
          rw [H.out]
          omega
  · have H : Hid (shortLimit a = 0) := if_neg h
    have hi := inB_f h
    clear h
    go_enter Try.func101, Try.ntmps101
    go_wp2_with (go_at_call 77; refine (l01In_any _ _ _ _).mono ?_; rintro e w' ⟨rfl, rfl⟩)
    go_ret
    exact ⟨ret_int H.out.symm, rfl⟩

theorem implShortLimit (a : Int) (w : World) : Calls Try.prog 102 #[.int .i64 a] w fun e w' => e = .returned (.int .i64 (shortLimit a)) ∧ w = w' := by
  by_cases h : 10 ≤ a ∧ a ≤ 10000
  · obtain ⟨h1, h2⟩ := h
    have H : Hid (shortLimit a = (if a ≤ 100 then max 1 (a * 9 / 100) else if a ≤ 500 then max 1 (a * 6 / 100) else max 1 (a * 3 / 100))) := if_pos ⟨h1, h2⟩
    have hi := inB_t h1 h2
    by_cases h3 : a ≤ 100
    · go_enter Try.func102, Try.ntmps102
      go_wp2_with (go_at_call 62; refine (in_any _ _ _ _).mono ?_; rintro e w' ⟨rfl, rfl⟩)
      all_goals
        go_ret
        refine ⟨ret_int ?_, rfl⟩
        rw [H.out]
        omega
    · by_cases h4 : a ≤ 500
      all_goals
        go_enter Try.func102, Try.ntmps102
        go_wp2_with (go_at_call 62; refine (in_any _ _ _ _).mono ?_; rintro e w' ⟨rfl, rfl⟩)
        all_goals
          go_ret
          refine ⟨ret_int ?_, rfl⟩
          rw [H.out]
          omega
  · have H : Hid (shortLimit a = 0) := if_neg h
    have hi := inB_f h
    clear h
    go_enter Try.func102, Try.ntmps102
    go_wp2_with (go_at_call 62; refine (in_any _ _ _ _).mono ?_; rintro e w' ⟨rfl, rfl⟩)
    go_ret
    exact ⟨ret_int H.out.symm, rfl⟩

/-- the price of a weight in a vessel -/
def priceAfterTare (g t p : Int) : Int := if t < 0 ∨ g < t then -1 else priceOf (g - t) p
end Go.Proofs.Ytfnhcbbfhoiemaa
