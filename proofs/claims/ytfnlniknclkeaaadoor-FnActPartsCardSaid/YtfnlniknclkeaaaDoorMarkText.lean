/- The walk of the laws' text of a mark. -/
import Derived.Test.YtfnlniknclkeaaaDoorTexts
import Derived.Test.YtfnlniknclkeaaaDoorLetText
namespace Go.Proofs.YtfnlniknclkeaaaDoor
open Go.ChangeShapes Go.WideShapes Go.ChangeAt Go.RowKit

def markL (u : Nat) : List UInt8 := 109 :: Lib.decDigits u
end Go.Proofs.YtfnlniknclkeaaaDoor
