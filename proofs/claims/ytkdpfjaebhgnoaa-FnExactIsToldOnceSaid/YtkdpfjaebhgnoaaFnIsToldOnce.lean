/- The law that compares IsToldOnce with the reference, walked. -/
import Derived.Test.YtkdpfjaebhgnoaaTold
import Derived.Test.YtkdpfjaebhgnoaaLetterS
import Derived.Test.YtkdpfjaebhgnoaaOpenLetters
namespace Go.Proofs.Ytkdpfjaebhgnoaa
open Go.ChangeShapes Go.WideShapes Go.ChangeAt Go.RowKit
theorem fnExactIsToldOnce_any (v0 : Value) (x0 : List (Int × List Int)) (w : World) (h0 : Letters w v0 x0) (f0 : LsWf x0) :
    Calls Try.prog 11 #[v0] w fun e w' => e = .returned (.bool true) ∧ Below w.heap.size w w' := by
  by_cases q0 : (1048576 : Int) < (bulk x0 : Int)
  · go_enter Try.func11, Try.ntmps11
    go_wp2_with fail
    refine (szLetterS_any _ x0 1048576 _ h0 (by omega) (by omega)).mono ?_
    rintro e w' ⟨rfl, hb0⟩
    rw [szRes_lt (by omega)]
    go_wp2
    go_ret
    exact ⟨rfl, hb0⟩
  go_enter Try.func11, Try.ntmps11
  go_wp2_with fail
  refine (szLetterS_any _ x0 1048576 _ h0 (by omega) (by omega)).mono ?_
  rintro e w0_ ⟨rfl, D0⟩
  rw [szRes_ge (by omega)]
  go_wp2_with fail
  refine (toLetterS_any _ x0 _ (h0.below (D0)) (by omega)).mono ?_
  rintro e w1_ ⟨rfl, hO1, hb1⟩
  have D1 := bnext (D0) hb1
  have S0 := hO1
  go_wp2_with fail
  refine (specToldW _ x0 _ S0 f0 (by omega)).mono ?_
  rintro e w2_ ⟨rfl, hb2⟩
  have D2 := bnext (D1) hb2
  have S0 := S0.below hb2
  go_wp2_with fail
  clear S0
  refine (toLetterS_any _ x0 _ (h0.below (D2)) (by omega)).mono ?_
  rintro e w3_ ⟨rfl, hO3, hb3⟩
  have D3 := bnext (D2) hb3
  have X0 := hO3
  go_wp2_with fail
  refine (implIsToldOnce _ x0 _ X0 f0 (by omega)).mono ?_
  rintro e w4_ ⟨rfl, hb4⟩
  have D4 := bnext (D3) hb4
  have X0 := X0.below hb4
  go_wp2_with fail
  refine (toLetterS_any _ x0 _ (h0.below (D4)) (by omega)).mono ?_
  rintro e w5_ ⟨rfl, hO5, hb5⟩
  have D5 := bnext (D4) hb5
  have X0 := X0.below hb5
  have T0 := hO5
  go_wp2_with fail
  refine (eqLetterS_any _ _ x0 x0 _ X0 T0).mono ?_
  rintro e w6_ ⟨rfl, hb6⟩
  have D6 := bnext (D5) hb6
  have X0 := X0.below hb6
  have T0 := T0.below hb6
  go_wp2
  go_ret
  exact ⟨rfl, D6⟩
end Go.Proofs.Ytkdpfjaebhgnoaa
