/- The walk of the laws' comparison of fractions. -/
import Derived.Test.YtfnhcbbfhoiemaaBase
import Derived.Test.YtfnhcbbfhoiemaaProg
namespace Go.Proofs.Ytfnhcbbfhoiemaa
open Go.ChangeShapes Go.WideShapes Go.ChangeAt Go.RowKit

theorem eqFraction_same (x y : Int) (w : World) : Calls Try.prog 27 #[.agg #[.int .i64 x, .int .i64 y], .agg #[.int .i64 x, .int .i64 y]] w fun e w' => e = .returned (.bool true) ∧ Below w.heap.size w w' := by
  go_enter Try.func27, Try.ntmps27
  go_wp2
  go_ret
  exact ⟨rfl, balloc (balloc (bref w) _) _⟩
end Go.Proofs.Ytfnhcbbfhoiemaa
