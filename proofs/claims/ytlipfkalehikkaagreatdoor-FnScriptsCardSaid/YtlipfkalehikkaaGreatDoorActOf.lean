/- What the rows' condition on the words and numbers of acts gives the walks. -/
import Derived.Test.YtlipfkalehikkaaGreatDoorTabOf
import Derived.Test.YtlipfkalehikkaaGreatDoorActText
import Derived.OpenShut
namespace Go.Proofs.YtlipfkalehikkaaGreatDoor
open Go.ChangeShapes Go.WideShapes Go.ChangeAt Go.RowKit

def LV (l : List (String × DataW Unit)) (W : World) : Prop := ∃ ps, DataW.LaidVars Tryz.prog W l ps
theorem lv_of {l : List (String × DataW Unit)} {W : World} (h : laidMet Tryz.prog l W) : LV l W := by obtain ⟨ps, h, _⟩ := h; exact ⟨ps, h⟩
theorem LV.tail {x : String × DataW Unit} {l : List (String × DataW Unit)} {W : World} (h : LV (x :: l) W) : LV l W := by
  obtain ⟨ps, _, _, _, _, _, q, _, _, _, _, hr, _⟩ := h
  exact ⟨q, hr⟩
theorem word_name : Tryz.prog.globalNamed "loop.example/g00992/impl.actWords" = some 0 := by kernel_rfl
theorem word_type : (Tryz.prog.globals[0]?).map (·.type) = some 68 := by kernel_rfl
theorem count_name : Tryz.prog.globalNamed "loop.example/g00992/impl.actFields" = some 1 := by kernel_rfl
theorem count_type : (Tryz.prog.globals[1]?).map (·.type) = some 69 := by kernel_rfl
theorem count_data : (Rows.laid_loop_example_g00992_impl_actFields : DataW Unit) = Lib.tabData .i64 [0, 4, 1, 2, 1, 2] := by kernel_rfl
theorem one_cell : Tryz.prog.cellsOf 9 = 1 := by kernel_rfl
theorem words_of {l : List (String × DataW Unit)} {W : World} (h : LV (("loop.example/g00992/impl.actWords", Rows.laid_loop_example_g00992_impl_actWords) :: l) W) : ∀ i, i < 6 → W.cell? ⟨0, i, none⟩ = some (.string (bstr (actWord i))) := by
  obtain ⟨ps, g', t', cs, fuel, p, q, hg', ht', hvar, hd, _, _⟩ := h
  obtain rfl := Option.some.inj (word_name.symm.trans hg')
  obtain rfl := Option.some.inj (word_type.symm.trans ht')
  obtain ⟨xs, m, rfl, hx, hlen, hn, hel⟩ := DataW.trod_array Tryz.underlying68 hd
  have e : xs.map (·.1) = [.lit (.string []), .lit (.string [99, 111, 112, 121]), .lit (.string [100, 97, 121, 115]), .lit (.string [119, 105, 116, 104, 100, 114, 97, 119]), .lit (.string [119, 101, 105, 103, 104, 116]), .lit (.string [100, 105, 102, 102, 101, 114, 101, 110, 99, 101])] := by
    have := congrArg Prod.fst hx
    simp only [Rows.laid_loop_example_g00992_impl_actWords, DataW.agg.injEq] at this
    exact this.symm
  intro i hi
  have hxi : i < xs.length := by omega
  have h1 := hel i hi
  rw [List.getElem?_eq_getElem hxi, one_cell] at h1
  obtain ⟨s, e1, e2, _⟩ := DataW.trod_string Tryz.underlying9 h1
  have e3 : (xs.map (·.1))[i]? = some (.lit (.string s.data.toList)) := by simp [hxi, e2]
  rw [e] at e3
  have e4 : s.data.toList = actWord i := by
    obtain rfl | rfl | rfl | rfl | rfl | rfl : i = 0 ∨ i = 1 ∨ i = 2 ∨ i = 3 ∨ i = 4 ∨ i = 5 := by omega
    all_goals
      simp at e3
      simp [actWord, ← e3]
  have e5 : s = bstr (actWord i) := by rw [← e4]; cases s; simp [bstr]
  have e6 : cs[i]? = some (.string s) := by
    have := congrArg (·[0]?) e1
    simpa [List.getElem?_take, List.getElem?_drop] using this
  have := World.var?_cell word_name hvar i
  rw [this, ← e5]
  simpa using e6
theorem counts_of {l : List (String × DataW Unit)} {W : World} (h : LV (("loop.example/g00992/impl.actFields", Rows.laid_loop_example_g00992_impl_actFields) :: l) W) : ∀ i, i < 6 → W.cell? ⟨1, i, none⟩ = some (.int .i64 (actCount i)) := by
  rw [count_data] at h
  obtain ⟨ps, g', t', cs, fuel, p, q, hg', ht', hvar, hd, _, _⟩ := h
  obtain rfl := Option.some.inj (count_name.symm.trans hg')
  obtain rfl := Option.some.inj (count_type.symm.trans ht')
  have hT : Lib.TabIs Tryz.prog W "loop.example/g00992/impl.actFields" .i64 [0, 4, 1, 2, 1, 2] := by
    show World.var? _ _ _ = _
    rw [hvar, ← Lib.cells_of_tab Tryz.underlying69 Tryz.underlying3 (by kernel_rfl) (by kernel_rfl) hd]
  intro i hi
  rw [hT.cell count_name i hi]
  obtain rfl | rfl | rfl | rfl | rfl | rfl : i = 0 ∨ i = 1 ∨ i = 2 ∨ i = 3 ∨ i = 4 ∨ i = 5 := by omega
  all_goals rfl
theorem actT_five {W : World} {a b : String × DataW Unit} {rest : List (String × DataW Unit)} (h : laidMet Tryz.prog (a :: b :: ("internal/strconv.uint64pow10", Rows.laid_internal_strconv_uint64pow10) :: ("loop.example/g00992/impl.actWords", Rows.laid_loop_example_g00992_impl_actWords) :: ("loop.example/g00992/impl.actFields", Rows.laid_loop_example_g00992_impl_actFields) :: rest) W) : ActT W :=
  ⟨tab_third h, words_of (lv_of h).tail.tail.tail, counts_of (lv_of h).tail.tail.tail.tail⟩
theorem actT_seven {W : World} {a b c d : String × DataW Unit} {rest : List (String × DataW Unit)} (h : laidMet Tryz.prog (a :: b :: ("internal/strconv.uint64pow10", Rows.laid_internal_strconv_uint64pow10) :: c :: d :: ("loop.example/g00992/impl.actWords", Rows.laid_loop_example_g00992_impl_actWords) :: ("loop.example/g00992/impl.actFields", Rows.laid_loop_example_g00992_impl_actFields) :: rest) W) : ActT W :=
  ⟨tab_third h, words_of (lv_of h).tail.tail.tail.tail.tail, counts_of (lv_of h).tail.tail.tail.tail.tail.tail⟩
end Go.Proofs.YtlipfkalehikkaaGreatDoor
