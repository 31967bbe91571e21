/- The walks of CountLetters, in the program and in the reference. -/
import Derived.Test.YtfnlniknclkeaaaGA
import Derived.Test.YtfnlniknclkeaaaProg
namespace Go.Proofs.Ytfnlniknclkeaaa
open Go.ChangeShapes Go.WideShapes Go.ChangeAt Go.RowKit

def countL (ls : List (Int × List Int)) : Int := sumTo (lLen ls) ls.length

end Go.Proofs.Ytfnlniknclkeaaa
