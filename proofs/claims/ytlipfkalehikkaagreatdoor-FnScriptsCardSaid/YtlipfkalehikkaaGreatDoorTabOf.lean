/- What the rows' condition on the library's table gives the walks. -/
import Derived.Test.YtlipfkalehikkaaGreatDoorFormat
import Derived.Test.YtlipfkalehikkaaGreatDoorRows
import Derived.Lib.LaidTab
import Derived.LaidMore
import Derived.Stop.Joined
namespace Go.Proofs.YtlipfkalehikkaaGreatDoor
open Go.ChangeShapes Go.WideShapes Go.ChangeAt Go.RowKit

theorem pow_name : Tryz.prog.globalNamed "internal/strconv.uint64pow10" = some 3 := by kernel_rfl
theorem pow_type : (Tryz.prog.globals[3]?).map (·.type) = some 125 := by kernel_rfl
theorem pow_data : (Rows.laid_internal_strconv_uint64pow10 : DataW Unit) = Lib.tabData .u64 Lib.pow10Tab := by kernel_rfl
/-- the table stands third on each row's list -/
theorem tab_third {W : World} {a b : String × DataW Unit} {rest : List (String × DataW Unit)} (h : laidMet Tryz.prog (a :: b :: ("internal/strconv.uint64pow10", Rows.laid_internal_strconv_uint64pow10) :: rest) W) : Tab W := by
  rw [pow_data] at h
  obtain ⟨ps, ⟨_, _, _, _, _, _, _, _, _, _, ⟨_, _, _, _, _, _, _, _, _, _, ⟨g', t', cs, fuel, p, q, hg', ht', hvar, hd, _, _⟩, _⟩, _⟩, _⟩ := h
  obtain rfl := Option.some.inj (pow_name.symm.trans hg')
  obtain rfl := Option.some.inj (pow_type.symm.trans ht')
  show World.var? _ _ _ = _
  rw [hvar, ← Lib.cells_of_tab Tryz.underlying125 Tryz.underlying113 (by kernel_rfl) (by kernel_rfl) hd]
end Go.Proofs.YtlipfkalehikkaaGreatDoor
