/- A new box of zeros. -/
import Derived.Test.YtfnlniknclkeaaaBoxH
import Derived.Test.YtfnlniknclkeaaaDrawHouse
import Derived.Deep.RegionHeld3
import Derived.Deep.RegionWith
import Derived.Deep.DeepCutAuto
namespace Go.Proofs.Ytfnlniknclkeaaa
open Go.ChangeShapes Go.WideShapes Go.ChangeAt Go.RowKit
theorem six_new (w : World) : Six w.heap.size (w.alloc (.cells #[.slice none 0 0, .slice none 0 0, .slice none 0 0, .slice none 0 0, .int .i64 0, .int .i64 0] 27)) (.slice none 0 0) (.slice none 0 0) (.slice none 0 0) (.slice none 0 0) (.int .i64 0) (.int .i64 0) :=
  ⟨by go_simp, by go_simp, by go_simp, by go_simp, by go_simp, by go_simp, by go_simp, by go_simp, by go_simp, by go_simp, by go_simp, by go_simp⟩
end Go.Proofs.Ytfnlniknclkeaaa
