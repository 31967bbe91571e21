/- The law that compares ShortLimit with the reference, walked. -/
import Derived.Test.YtejgkighejcooaaPrice
namespace Go.Proofs.Ytejgkighejcooaa
open Go.ChangeShapes Go.WideShapes Go.ChangeAt Go.RowKit
theorem fnExactShortLimit_any (a : Int) (w : World) : Calls Try.prog 3 #[.int .i64 a] w fun e w' => e = .returned (.bool true) ∧ Below w.heap.size w w' := by
  go_enter Try.func3, Try.ntmps3
  go_wp2_with (first | (go_at_call 9; refine (specShortLimit _ _).mono ?_; rintro e w' ⟨rfl, rfl⟩) | (go_at_call 10; refine (implShortLimit _ _).mono ?_; rintro e w' ⟨rfl, rfl⟩))
  go_ret
  exact ⟨rfl, bref _⟩
end Go.Proofs.Ytejgkighejcooaa
