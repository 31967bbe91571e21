/- The law that compares PriceAfterTare with the reference, walked. -/
import Derived.Test.YtejgkighejcooaaPrice
namespace Go.Proofs.Ytejgkighejcooaa
open Go.ChangeShapes Go.WideShapes Go.ChangeAt Go.RowKit
theorem fnExactPriceAfterTare_any (g t p : Int) (w : World) (hg : (Lit.int .i64 g).wf = true) (ht : (Lit.int .i64 t).wf = true) : Calls Try.prog 6 #[.int .i64 g, .int .i64 t, .int .i64 p] w fun e w' => e = .returned (.bool true) ∧ Below w.heap.size w w' := by
  go_enter Try.func6, Try.ntmps6
  go_wp2_with (first | (go_at_call 16; refine (specPriceAfterTare _ _ _ _ hg ht).mono ?_; rintro e w' ⟨rfl, rfl⟩) | (go_at_call 17; refine (implPriceAfterTare _ _ _ _ hg ht).mono ?_; rintro e w' ⟨rfl, rfl⟩))
  go_ret
  exact ⟨rfl, bref _⟩
end Go.Proofs.Ytejgkighejcooaa
