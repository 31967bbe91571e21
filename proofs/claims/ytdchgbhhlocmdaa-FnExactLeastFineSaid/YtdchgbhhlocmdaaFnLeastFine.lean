/- The law that compares LeastFine with the reference, walked. -/
import Derived.Test.YtdchgbhhlocmdaaMost
import Derived.Test.YtdchgbhhlocmdaaVisitS
import Derived.Test.YtdchgbhhlocmdaaMarkO
import Derived.Deep.RegionHeld3
namespace Go.Proofs.Ytdchgbhhlocmdaa
open Go.ChangeShapes Go.WideShapes Go.ChangeAt Go.RowKit
set_option maxRecDepth 100000 in
set_option maxHeartbeats 4000000 in
theorem fnExactLeastFine_any (v0 : Value) (n0 : Nat) (x0 : List Int) (w : World) (h0 : Recs 2 w v0 n0 x0) :
    Calls Try.prog 6 #[v0] w fun e w' => e = .returned (.bool true) ∧ Below w.heap.size w w' := by
  have l0 := h0.len
  by_cases q0 : (1048576 : Int) < (n0 : Int)
  · skip
    go_enter Try.func6, Try.ntmps6
    go_wp2_with fail
    refine (szVisitS_any _ n0 x0 (1048576) _ h0 (by omega) (by omega)).mono ?_
    rintro e w' ⟨rfl, rfl⟩
    rw [if_pos (by omega)]
    go_wp2
    go_ret
    exact ⟨rfl, (bref w)⟩
  go_enter Try.func6, Try.ntmps6
  go_wp2_with fail
  refine (szVisitS_any _ n0 x0 (1048576) _ h0 (by omega) (by omega)).mono ?_
  rintro e w' ⟨rfl, rfl⟩
  rw [if_neg (by omega)]
  go_wp2_with fail
  refine (toVisitS_any _ n0 x0 _ h0 (by omega)).mono ?_
  rintro e w1_ ⟨rfl, hO1, hb1⟩
  have T1 := hb1
  have Z1 := hb1.size
  have D1 := bnext (bref w) T1
  have O_s0 := RowO.of hO1
  clear hO1
  clear T1 hb1
  go_wp2_with fail
  refine (specLeastFine _ n0 x0 _ (O_s0.recs (by omega))).mono ?_
  rintro e w2_ ⟨rfl, hb2⟩
  have T2 := hb2
  have Z2 := hb2.size
  replace O_s0 := O_s0.below T2
  have D2 := bnext D1 T2
  clear T2 hb2
  go_wp2_with fail
  clear O_s0
  refine (toVisitS_any _ n0 x0 _ (h0.below D2) (by omega)).mono ?_
  rintro e w3_ ⟨rfl, hO3, hb3⟩
  have T3 := hb3
  have Z3 := hb3.size
  have D3 := bnext D2 T3
  have O_x0 := RowO.of hO3
  clear hO3
  clear T3 hb3
  go_wp2_with fail
  refine (implLeastFine _ n0 x0 _ (O_x0.recs (by omega))).mono ?_
  rintro e w4_ ⟨rfl, hb4⟩
  have T4 := hb4
  have Z4 := hb4.size
  replace O_x0 := O_x0.below T4
  have D4 := bnext D3 T4
  clear T4 hb4
  go_wp2_with fail
  refine (toVisitS_any _ n0 x0 _ (h0.below D4) (by omega)).mono ?_
  rintro e w5_ ⟨rfl, hO5, hb5⟩
  have T5 := hb5
  have Z5 := hb5.size
  replace O_x0 := O_x0.below T5
  have D5 := bnext D4 T5
  have O_t := RowO.of hO5
  clear hO5
  clear T5 hb5
  go_wp2_with fail
  refine (eqVisitS_any _ _ n0 n0 (x0) (x0) _ (O_x0.recs (by omega)) (O_t.recs (by omega))).mono ?_
  rintro e w6_ ⟨rfl, hb6⟩
  have T6 := hb6
  have Z6 := hb6.size
  replace O_x0 := O_x0.below T6
  replace O_t := O_t.below T6
  have D6 := bnext D5 T6
  clear T6 hb6
  clear O_t
  go_wp2
  go_ret
  exact ⟨rfl, D6⟩
end Go.Proofs.Ytdchgbhhlocmdaa
