/- The law that compares FormatAct with the reference, walked. -/
import Derived.Test.YtdeongecbmjkjaaDoorActText
namespace Go.Proofs.YtdeongecbmjkjaaDoor
open Go.ChangeShapes Go.WideShapes Go.ChangeAt Go.RowKit

theorem fnExactFormatAct_any (k a b c d : Int) (w : World) (ht : ActT w) : Calls Tryd.prog 3 #[.agg #[.int .i64 k, .int .i64 a, .int .i64 b, .int .i64 c, .int .i64 d]] w fun e w' => e = .returned (.bool true) ∧ Below w.heap.size w w' := by
  have ht0 := ht.below (balloc (bref w) (.cells #[.int .i64 k, .int .i64 a, .int .i64 b, .int .i64 c, .int .i64 d] 23))
  go_enter Tryd.func3, Tryd.ntmps3
  go_wp2_with fail
  refine (toAct_any _ _ _ _ _ _).mono ?_
  rintro e w1 ⟨rfl, hb1⟩
  have c1 := below_cell hb1
  go_wp2_with fail
  refine (specFormatAct k a b c d _).mono ?_
  rintro e w2 ⟨rfl, hb2⟩
  have D2 := bnext hb1 hb2
  have c2 := below_cell D2
  clear c1
  go_wp2_with fail
  refine (toAct_any _ _ _ _ _ _).mono ?_
  rintro e w3 ⟨rfl, hb3⟩
  have D3 := bnext D2 hb3
  clear c2
  go_wp2_with fail
  refine (implFormatAct k a b c d _ (ht0.below D3)).mono ?_
  rintro e w4 ⟨rfl, hb4⟩
  have D4 := bnext D3 hb4
  generalize formatAct k a b c d = r
  obtain ⟨s, ok⟩ := r
  go_wp2
  go_ret
  exact ⟨rfl, bnext (balloc (bref _) _) D4⟩
end Go.Proofs.YtdeongecbmjkjaaDoor
