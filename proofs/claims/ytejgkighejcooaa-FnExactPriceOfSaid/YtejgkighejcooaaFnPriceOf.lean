/- The law that compares PriceOf with the reference, walked. -/
import Derived.Test.YtejgkighejcooaaPrice
namespace Go.Proofs.Ytejgkighejcooaa
open Go.ChangeShapes Go.WideShapes Go.ChangeAt Go.RowKit
theorem fnExactPriceOf_any (g p : Int) (w : World) : Calls Try.prog 4 #[.int .i64 g, .int .i64 p] w fun e w' => e = .returned (.bool true) ∧ Below w.heap.size w w' := by
  go_enter Try.func4, Try.ntmps4
  go_wp2_with (first | (go_at_call 11; refine (specPriceOf _ _ _).mono ?_; rintro e w' ⟨rfl, rfl⟩) | (go_at_call 12; refine (implPriceOf _ _ _).mono ?_; rintro e w' ⟨rfl, rfl⟩))
  go_ret
  exact ⟨rfl, bref _⟩
end Go.Proofs.Ytejgkighejcooaa
