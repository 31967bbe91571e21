/- The walks of the range tests, of ShortLimit, PriceOf, PriceAfterTare and GramsFor, in the program and in the reference. -/
import Derived.Test.YtdchgbhhlocmdaaProg
import Derived.Test.YtdchgbhhlocmdaaBase
namespace Go.Proofs.Ytdchgbhhlocmdaa
open Go.ChangeShapes Go.WideShapes Go.ChangeAt Go.RowKit

theorem in_any (a b c : Int) (w : World) : Calls Try.prog 72 #[.int .i64 a, .int .i64 b, .int .i64 c] w fun e w' => e = .returned (.bool (inB a b c)) ∧ w = w' := by
  by_cases h : b ≤ a
  all_goals
    go_enter Try.func72, Try.ntmps72
    go_wp2
    go_ret
    exact ⟨by (try rw [← Int.not_le] at h); simp [inB, h], rfl⟩
theorem l01In_any (a b c : Int) (w : World) : Calls Try.prog 77 #[.int .i64 a, .int .i64 b, .int .i64 c] w fun e w' => e = .returned (.bool (inB a b c)) ∧ w = w' := by
  by_cases h : b ≤ a
  all_goals
    go_enter Try.func77, Try.ntmps77
    go_wp2
    go_ret
    exact ⟨by (try rw [← Int.not_le] at h); simp [inB, h], rfl⟩
end Go.Proofs.Ytdchgbhhlocmdaa
