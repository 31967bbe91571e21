/- The walk of the laws' test that texts are marked. -/
import Derived.Test.YtfnlniknclkeaaaDoorMarkS
import Derived.Deep.DeepCutAuto
import Derived.Deep.RegionHeld3
namespace Go.Proofs.YtfnlniknclkeaaaDoor
open Go.ChangeShapes Go.WideShapes Go.ChangeAt Go.RowKit

theorem markLs_tx (k0 n k : Nat) (h : k < n) : tx (markLs k0 n) k = markL (k0 + k) := by simp [tx, markLs, h]
end Go.Proofs.YtfnlniknclkeaaaDoor
