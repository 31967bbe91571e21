/- The law that compares DueOrder with the reference, walked. -/
import Derived.Test.YtdchgbhhlocmdaaDueOrder
import Derived.Test.YtdchgbhhlocmdaaVisitS
import Derived.Test.YtdchgbhhlocmdaaMarkO
import Derived.Test.YtdchgbhhlocmdaaIntS
import Derived.Deep.RegionHeld3
namespace Go.Proofs.Ytdchgbhhlocmdaa
open Go.ChangeShapes Go.WideShapes Go.ChangeAt Go.RowKit
set_option maxRecDepth 100000 in
set_option maxHeartbeats 4000000 in
theorem fnExactDueOrder_any (v0 : Value) (n0 : Nat) (x0 : List Int) (w : World) (h0 : Recs 2 w v0 n0 x0) :
    Calls Try.prog 3 #[v0] w fun e w' => e = .returned (.bool true) ∧ Below w.heap.size w w' := by
  have hL := dueOrder_len n0 x0
  have l0 := h0.len
  by_cases q0 : (1048576 : Int) < (n0 : Int)
  · skip
    go_enter Try.func3, Try.ntmps3
    go_wp2_with fail
    refine (szVisitS_any _ n0 x0 (1048576) _ h0 (by omega) (by omega)).mono ?_
    rintro e w' ⟨rfl, rfl⟩
    rw [if_pos (by omega)]
    go_wp2
    go_ret
    exact ⟨rfl, (bref w)⟩
  go_enter Try.func3, Try.ntmps3
  go_wp2_with fail
  refine (szVisitS_any _ n0 x0 (1048576) _ h0 (by omega) (by omega)).mono ?_
  rintro e w' ⟨rfl, rfl⟩
  rw [if_neg (by omega)]
  go_wp2_with fail
  refine (toVisitS_any _ n0 x0 _ h0 (by omega)).mono ?_
  rintro e w1_ ⟨rfl, hO1, hb1⟩
  have T1 := hb1
  have Z1 := hb1.size
  have D1 := bnext (bref w) T1
  have O_s0 := RowO.of hO1
  clear hO1
  clear T1 hb1
  go_wp2_with fail
  refine (specDueOrder _ n0 x0 _ (O_s0.recs (by omega))).mono ?_
  rintro e w2_ ⟨v0_2, rfl, hO2, hb2⟩
  have T2 := hb2
  have Z2 := hb2.size
  replace O_s0 := O_s0.below T2
  have D2 := bnext D1 T2
  have O_w0 := RowO.of hO2
  clear hO2
  clear T2 hb2
  go_wp2_with fail
  clear O_s0
  refine (toVisitS_any _ n0 x0 _ (h0.below D2) (by omega)).mono ?_
  rintro e w3_ ⟨rfl, hO3, hb3⟩
  have T3 := hb3
  have Z3 := hb3.size
  replace O_w0 := O_w0.below T3
  have D3 := bnext D2 T3
  have O_x0 := RowO.of hO3
  clear hO3
  clear T3 hb3
  go_wp2_with fail
  refine (implDueOrder _ n0 x0 _ (O_x0.recs (by omega))).mono ?_
  rintro e w4_ ⟨v0_4, rfl, hO4, hb4⟩
  have T4 := hb4
  have Z4 := hb4.size
  replace O_w0 := O_w0.below T4
  replace O_x0 := O_x0.below T4
  have D4 := bnext D3 T4
  have O_g0 := RowO.of hO4
  clear hO4
  clear T4 hb4
  go_wp2_with fail
  refine (eqIntS_bel _ _ (dueOrder n0 x0) (dueOrder n0 x0) _ (O_g0.ints (by omega)) (O_w0.ints (by omega))).mono ?_
  rintro e w5_ ⟨rfl, hb5⟩
  have T5 := hb5
  have Z5 := hb5.size
  replace O_w0 := O_w0.below T5
  replace O_x0 := O_x0.below T5
  replace O_g0 := O_g0.below T5
  have D5 := bnext D4 T5
  clear T5 hb5
  go_wp2_with fail
  refine (toVisitS_any _ n0 x0 _ (h0.below D5) (by omega)).mono ?_
  rintro e w6_ ⟨rfl, hO6, hb6⟩
  have T6 := hb6
  have Z6 := hb6.size
  replace O_w0 := O_w0.below T6
  replace O_x0 := O_x0.below T6
  replace O_g0 := O_g0.below T6
  have D6 := bnext D5 T6
  have O_t := RowO.of hO6
  clear hO6
  clear T6 hb6
  go_wp2_with fail
  refine (eqVisitS_any _ _ n0 n0 (x0) (x0) _ (O_x0.recs (by omega)) (O_t.recs (by omega))).mono ?_
  rintro e w7_ ⟨rfl, hb7⟩
  have T7 := hb7
  have Z7 := hb7.size
  replace O_w0 := O_w0.below T7
  replace O_x0 := O_x0.below T7
  replace O_g0 := O_g0.below T7
  replace O_t := O_t.below T7
  have D7 := bnext D6 T7
  clear T7 hb7
  clear O_t
  go_wp2_with fail
  refine (markVisitS_o _ n0 (x0) (1) _ _ _ _ O_x0 (by omega) (by omega) (by omega)).mono ?_
  rintro e w8_ ⟨rfl, hO8, hb8⟩
  have T8 := hb8
  have Z8 := T8.size
  replace O_w0 := O_w0.only T8 (by unfold Off; omega)
  replace O_g0 := O_g0.only T8 (by unfold Off; omega)
  have D8 := Only.below D7 T8 (by omega)
  replace O_x0 := hO8
  clear hO8
  clear T8 hb8
  go_wp2_with fail
  refine (eqIntS_bel _ _ (dueOrder n0 x0) (dueOrder n0 x0) _ (O_g0.ints (by omega)) (O_w0.ints (by omega))).mono ?_
  rintro e w9_ ⟨rfl, hb9⟩
  have T9 := hb9
  have Z9 := hb9.size
  replace O_w0 := O_w0.below T9
  replace O_x0 := O_x0.below T9
  replace O_g0 := O_g0.below T9
  have D9 := bnext D8 T9
  clear T9 hb9
  go_wp2_with fail
  clear O_x0
  refine (markIntS_o _ (dueOrder n0 x0).length (dueOrder n0 x0) (1) _ _ _ _ O_g0 (by omega) (by omega) (by omega)).mono ?_
  rintro e w10_ ⟨rfl, hO10, hb10⟩
  have T10 := hb10
  have Z10 := T10.size
  replace O_w0 := O_w0.only T10 (by unfold Off; omega)
  have D10 := Only.below D9 T10 (by omega)
  replace O_g0 := hO10
  clear hO10
  clear T10 hb10
  go_wp2_with fail
  refine (heldIntS_o _ (dueOrder n0 x0).length (1) _ _ _ _ O_g0 (by omega) (by omega) (by omega)).mono ?_
  rintro e w11_ ⟨rfl, hb11⟩
  have T11 := hb11
  have Z11 := hb11.size
  replace O_w0 := O_w0.below T11
  replace O_g0 := O_g0.below T11
  have D11 := bnext D10 T11
  clear T11 hb11
  go_wp2_with fail
  refine (toVisitS_any _ n0 x0 _ (h0.below D11) (by omega)).mono ?_
  rintro e w12_ ⟨rfl, hO12, hb12⟩
  have T12 := hb12
  have Z12 := hb12.size
  replace O_w0 := O_w0.below T12
  replace O_g0 := O_g0.below T12
  have D12 := bnext D11 T12
  have O_s0 := RowO.of hO12
  clear hO12
  clear T12 hb12
  go_wp2_with fail
  refine (implDueOrder _ n0 x0 _ (O_s0.recs (by omega))).mono ?_
  rintro e w13_ ⟨v0_13, rfl, hO13, hb13⟩
  have T13 := hb13
  have Z13 := hb13.size
  replace O_w0 := O_w0.below T13
  replace O_g0 := O_g0.below T13
  replace O_s0 := O_s0.below T13
  have D13 := bnext D12 T13
  have O_h0 := RowO.of hO13
  clear hO13
  clear T13 hb13
  go_wp2_with fail
  clear O_s0
  refine (eqIntS_bel _ _ (dueOrder n0 x0) (dueOrder n0 x0) _ (O_h0.ints (by omega)) (O_w0.ints (by omega))).mono ?_
  rintro e w14_ ⟨rfl, hb14⟩
  have T14 := hb14
  have Z14 := hb14.size
  replace O_w0 := O_w0.below T14
  replace O_g0 := O_g0.below T14
  replace O_h0 := O_h0.below T14
  have D14 := bnext D13 T14
  clear T14 hb14
  go_wp2_with fail
  refine (heldIntS_o _ (dueOrder n0 x0).length (1) _ _ _ _ O_g0 (by omega) (by omega) (by omega)).mono ?_
  rintro e w15_ ⟨rfl, hb15⟩
  have T15 := hb15
  have Z15 := hb15.size
  replace O_w0 := O_w0.below T15
  replace O_g0 := O_g0.below T15
  replace O_h0 := O_h0.below T15
  have D15 := bnext D14 T15
  clear T15 hb15
  go_wp2
  go_ret
  exact ⟨rfl, D15⟩
end Go.Proofs.Ytdchgbhhlocmdaa
