/- The law that compares LossOf with the reference, walked. -/
import Derived.Test.YtkdpfjaebhgnoaaPriceAll
import Derived.Test.YtkdpfjaebhgnoaaIntS
namespace Go.Proofs.Ytkdpfjaebhgnoaa
open Go.ChangeShapes Go.WideShapes Go.ChangeAt Go.RowKit
theorem fnExactLossOf_any (v0 : Value) (x0 : List Int) (p : Int) (w : World) (h0 : Ints w v0 x0) :
    Calls Try.prog 8 #[v0, .int .i64 p] w fun e w' => e = .returned (.bool true) ∧ Below w.heap.size w w' := by
  obtain ⟨ad0, cap0, rfl⟩ : ∃ ad cap, v0 = .slice ad x0.length cap := by obtain ⟨_, ad, cap, hh, _⟩ := h0; exact ⟨ad, cap, hh⟩
  have l0 := h0.len
  by_cases q0 : (1048576 : Int) < (x0.length : Int)
  · go_enter Try.func8, Try.ntmps8
    go_wp2_with fail
    go_ret
    exact ⟨rfl, bref _⟩
  go_enter Try.func8, Try.ntmps8
  go_wp2_with fail
  refine (toIntS_any _ x0 _ h0 (by omega)).mono ?_
  rintro e w1_ ⟨rfl, hO1, hb1⟩
  have D1 := bnext (bref w) hb1
  have S0 := Ints.of_own hO1 (by omega)
  go_wp2_with fail
  refine (specLossOf _ x0 p _ S0).mono ?_
  rintro e w2_ ⟨rfl, hb2⟩
  have D2 := bnext (D1) hb2
  have S0 := S0.below hb2
  go_wp2_with fail
  clear S0
  refine (toIntS_any _ x0 _ (h0.below (D2)) (by omega)).mono ?_
  rintro e w3_ ⟨rfl, hO3, hb3⟩
  have D3 := bnext (D2) hb3
  have X0 := Ints.of_own hO3 (by omega)
  go_wp2_with fail
  refine (implLossOf _ x0 p _ X0).mono ?_
  rintro e w4_ ⟨rfl, hb4⟩
  have D4 := bnext (D3) hb4
  have X0 := X0.below hb4
  go_wp2_with fail
  refine (toIntS_any _ x0 _ (h0.below (D4)) (by omega)).mono ?_
  rintro e w5_ ⟨rfl, hO5, hb5⟩
  have D5 := bnext (D4) hb5
  have X0 := X0.below hb5
  have T0 := Ints.of_own hO5 (by omega)
  go_wp2_with fail
  refine (eqIntS_bel _ _ x0 x0 _ X0 T0).mono ?_
  rintro e w6_ ⟨rfl, hb6⟩
  have D6 := bnext (D5) hb6
  have X0 := X0.below hb6
  have T0 := T0.below hb6
  go_wp2
  go_ret
  exact ⟨rfl, D6⟩
end Go.Proofs.Ytkdpfjaebhgnoaa
