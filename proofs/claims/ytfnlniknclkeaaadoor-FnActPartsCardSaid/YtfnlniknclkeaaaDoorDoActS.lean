/- The walk of DoAct, in the reference. -/
import Derived.Test.YtfnlniknclkeaaaDoorGJ
import Derived.Test.YtfnlniknclkeaaaDoorGK
import Derived.Deep.RegionWith
import Derived.Deep.RegionHeld3
import Derived.Deep.DeepCutAuto
namespace Go.Proofs.YtfnlniknclkeaaaDoor
open Go.ChangeShapes Go.WideShapes Go.ChangeAt Go.RowKit

end Go.Proofs.YtfnlniknclkeaaaDoor
