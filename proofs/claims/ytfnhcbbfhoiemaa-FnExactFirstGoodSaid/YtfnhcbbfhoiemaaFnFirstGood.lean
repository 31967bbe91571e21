/- The law that compares FirstGood with the reference, walked. -/
import Derived.Test.YtfnhcbbfhoiemaaFirstGood
import Derived.Test.YtfnhcbbfhoiemaaCopyS
import Derived.Test.YtfnhcbbfhoiemaaIntS
namespace Go.Proofs.Ytfnhcbbfhoiemaa
open Go.ChangeShapes Go.WideShapes Go.ChangeAt Go.RowKit
theorem fnExactFirstGood_any (v0 : Value) (n0 : Nat) (x0 : List Int) (v1 : Value) (x1 : List Int) (k : Int) (b : Int) (s : Int) (w : World) (h0 : Recs 3 w v0 n0 x0) (h1 : Ints w v1 x1) :
    Calls Try.prog 7 #[v0, v1, .int .i64 k, .int .i64 b, .int .i64 s] w fun e w' => e = .returned (.bool true) ∧ Below w.heap.size w w' := by
  obtain ⟨ad1, cap1, rfl⟩ : ∃ ad cap, v1 = .slice ad x1.length cap := by obtain ⟨_, ad, cap, hh, _⟩ := h1; exact ⟨ad, cap, hh⟩
  have l1 := h1.len
  by_cases q1 : (1048576 : Int) < (x1.length : Int)
  · go_enter Try.func7, Try.ntmps7
    go_wp2_with fail
    go_ret
    exact ⟨rfl, bref _⟩
  by_cases q0 : (1048576 : Int) < (n0 : Int)
  · go_enter Try.func7, Try.ntmps7
    go_wp2_with fail
    refine (szCopyS_any _ n0 x0 1048576 _ h0 (by omega) (by omega)).mono ?_
    rintro e w' ⟨rfl, rfl⟩
    rw [if_pos (by omega)]
    go_wp2
    go_ret
    exact ⟨rfl, bref _⟩
  go_enter Try.func7, Try.ntmps7
  go_wp2_with fail
  refine (szCopyS_any _ n0 x0 1048576 _ h0 (by omega) (by omega)).mono ?_
  rintro e w' ⟨rfl, rfl⟩
  rw [if_neg (by omega)]
  go_wp2_with fail
  refine (toCopyS_any _ n0 x0 _ h0 (by omega)).mono ?_
  rintro e w1_ ⟨rfl, hO1, hb1⟩
  have D1 := bnext (bref w) hb1
  have S0 := Recs.of_own hO1 (by omega)
  go_wp2_with fail
  refine (toIntS_any _ x1 _ (h1.below (D1)) (by omega)).mono ?_
  rintro e w2_ ⟨rfl, hO2, hb2⟩
  have D2 := bnext (D1) hb2
  have S0 := S0.below hb2
  have S1 := Ints.of_own hO2 (by omega)
  go_wp2_with fail
  refine (specFirstGood _ n0 x0 _ x1 k b s _ S0 S1).mono ?_
  rintro e w3_ ⟨rfl, hb3⟩
  have D3 := bnext (D2) hb3
  have S0 := S0.below hb3
  have S1 := S1.below hb3
  go_wp2_with fail
  clear S0
  clear S1
  refine (toCopyS_any _ n0 x0 _ (h0.below (D3)) (by omega)).mono ?_
  rintro e w4_ ⟨rfl, hO4, hb4⟩
  have D4 := bnext (D3) hb4
  have X0 := Recs.of_own hO4 (by omega)
  go_wp2_with fail
  refine (toIntS_any _ x1 _ (h1.below (D4)) (by omega)).mono ?_
  rintro e w5_ ⟨rfl, hO5, hb5⟩
  have D5 := bnext (D4) hb5
  have X0 := X0.below hb5
  have X1 := Ints.of_own hO5 (by omega)
  go_wp2_with fail
  refine (implFirstGood _ n0 x0 _ x1 k b s _ X0 X1).mono ?_
  rintro e w6_ ⟨rfl, hb6⟩
  have D6 := bnext (D5) hb6
  have X0 := X0.below hb6
  have X1 := X1.below hb6
  go_wp2_with fail
  refine (toCopyS_any _ n0 x0 _ (h0.below (D6)) (by omega)).mono ?_
  rintro e w7_ ⟨rfl, hO7, hb7⟩
  have D7 := bnext (D6) hb7
  have X0 := X0.below hb7
  have X1 := X1.below hb7
  have T0 := Recs.of_own hO7 (by omega)
  go_wp2_with fail
  refine (eqCopyS_any _ _ n0 n0 x0 x0 _ X0 T0).mono ?_
  rintro e w8_ ⟨rfl, hb8⟩
  have D8 := bnext (D7) hb8
  have X0 := X0.below hb8
  have X1 := X1.below hb8
  have T0 := T0.below hb8
  go_wp2_with fail
  refine (toIntS_any _ x1 _ (h1.below (D8)) (by omega)).mono ?_
  rintro e w9_ ⟨rfl, hO9, hb9⟩
  have D9 := bnext (D8) hb9
  have X1 := X1.below hb9
  have T1 := Ints.of_own hO9 (by omega)
  go_wp2_with fail
  refine (eqIntS_bel _ _ x1 x1 _ X1 T1).mono ?_
  rintro e w10_ ⟨rfl, hb10⟩
  have D10 := bnext (D9) hb10
  have X1 := X1.below hb10
  have T1 := T1.below hb10
  go_wp2
  go_ret
  exact ⟨rfl, D10⟩
end Go.Proofs.Ytfnhcbbfhoiemaa
