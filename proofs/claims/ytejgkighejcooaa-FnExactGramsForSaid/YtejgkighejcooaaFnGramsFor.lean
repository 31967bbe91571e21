/- The law that compares GramsFor with the reference, walked. -/
import Derived.Test.YtejgkighejcooaaPrice
namespace Go.Proofs.Ytejgkighejcooaa
open Go.ChangeShapes Go.WideShapes Go.ChangeAt Go.RowKit
theorem fnExactGramsFor_any (m p : Int) (w : World) : Calls Try.prog 7 #[.int .i64 m, .int .i64 p] w fun e w' => e = .returned (.bool true) ∧ Below w.heap.size w w' := by
  go_enter Try.func7, Try.ntmps7
  go_wp2_with (first | (go_at_call 18; refine (specGramsFor _ _ _).mono ?_; rintro e w' ⟨rfl, rfl⟩) | (go_at_call 19; refine (implGramsFor _ _ _).mono ?_; rintro e w' ⟨rfl, rfl⟩))
  go_ret
  exact ⟨rfl, bref _⟩
end Go.Proofs.Ytejgkighejcooaa
