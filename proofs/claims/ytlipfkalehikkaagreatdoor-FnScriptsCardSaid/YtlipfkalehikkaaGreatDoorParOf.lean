/- What the rows' condition on the tables and the library's errors gives the walks. -/
import Derived.Test.YtlipfkalehikkaaGreatDoorActOf
import Derived.Test.YtlipfkalehikkaaGreatDoorUint
import Derived.Stop.LaidErr
namespace Go.Proofs.YtlipfkalehikkaaGreatDoor
open Go.ChangeShapes Go.WideShapes Go.ChangeAt Go.RowKit

theorem es_name : Tryz.prog.globalNamed "strconv.ErrSyntax" = some 6 := by kernel_rfl
theorem es_type : (Tryz.prog.globals[6]?).map (·.type) = some 96 := by kernel_rfl
theorem es_star : "*" ++ "errors.errorString" = "*errors.errorString" := by decide
theorem es_row (u : TypeId) (h : Tryz.prog.typeName? 3 u = some "*errors.errorString") : u = 146 :=
  typeName_ptr_named (nm := "errors.errorString") (by rw [es_star]; kernel_rfl) (by kernel_rfl) (by decide) u (by rw [es_star]; exact h)
theorem es_cells : Tryz.prog.cellsOf 148 = 1 := by kernel_rfl
theorem err_of {r : List (String × DataW Unit)} {W : World} (h : laidMet Tryz.prog (("strconv.ErrSyntax", Rows.laid_strconv_ErrSyntax) :: r) W) : ∃ tp p, W.cell? ⟨6, 0, none⟩ = some (.iface tp p) := by
  obtain ⟨a0, s0, hv0, -, -, -⟩ := laid_sentinel h es_name es_type Tryz.underlying96 es_row Tryz.underlying146 Tryz.underlying148 rfl rfl Tryz.underlying9 es_cells one_cell
  exact ⟨_, _, by have h0 := World.var?_cell es_name hv0 0; simpa using h0⟩
theorem parT_seven {W : World} {a b c : String × DataW Unit} {rest : List (String × DataW Unit)} (h : laidMet Tryz.prog (a :: b :: ("internal/strconv.uint64pow10", Rows.laid_internal_strconv_uint64pow10) :: c :: ("strconv.ErrSyntax", Rows.laid_strconv_ErrSyntax) :: ("loop.example/g00992/impl.actWords", Rows.laid_loop_example_g00992_impl_actWords) :: ("loop.example/g00992/impl.actFields", Rows.laid_loop_example_g00992_impl_actFields) :: rest) W) : ParT W :=
  ⟨actT_seven h, err_of h.tail.tail.tail.tail⟩
theorem bstr_of (s : ByteArray) : ∃ l : List UInt8, s = bstr l := ⟨s.data.toList, by cases s; simp [bstr]⟩
end Go.Proofs.YtlipfkalehikkaaGreatDoor
