/- The walks of the sum of a list, in the program and in the reference. -/
import Derived.Test.YtdeongecbmjkjaaDoorProg
import Derived.Test.YtdeongecbmjkjaaDoorBase
namespace Go.Proofs.YtdeongecbmjkjaaDoor
open Go.ChangeShapes Go.WideShapes Go.ChangeAt Go.RowKit
end Go.Proofs.YtdeongecbmjkjaaDoor
