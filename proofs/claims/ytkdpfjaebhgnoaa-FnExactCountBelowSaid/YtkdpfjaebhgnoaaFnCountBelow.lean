/- The law that compares CountBelow with the reference, walked. -/
import Derived.Test.YtkdpfjaebhgnoaaDepend
import Derived.Test.YtkdpfjaebhgnoaaCopyS
namespace Go.Proofs.Ytkdpfjaebhgnoaa
open Go.ChangeShapes Go.WideShapes Go.ChangeAt Go.RowKit
theorem fnExactCountBelow_any (v0 : Value) (n0 : Nat) (x0 : List Int) (k : Int) (w : World) (h0 : Recs 3 w v0 n0 x0) :
    Calls Try.prog 12 #[v0, .int .i64 k] w fun e w' => e = .returned (.bool true) ∧ Below w.heap.size w w' := by
  by_cases q0 : (1048576 : Int) < (n0 : Int)
  · go_enter Try.func12, Try.ntmps12
    go_wp2_with fail
    refine (szCopyS_any _ n0 x0 1048576 _ h0 (by omega) (by omega)).mono ?_
    rintro e w' ⟨rfl, rfl⟩
    rw [if_pos (by omega)]
    go_wp2
    go_ret
    exact ⟨rfl, bref _⟩
  go_enter Try.func12, Try.ntmps12
  go_wp2_with fail
  refine (szCopyS_any _ n0 x0 1048576 _ h0 (by omega) (by omega)).mono ?_
  rintro e w' ⟨rfl, rfl⟩
  rw [if_neg (by omega)]
  go_wp2_with fail
  refine (toCopyS_any _ n0 x0 _ h0 (by omega)).mono ?_
  rintro e w1_ ⟨rfl, hO1, hb1⟩
  have D1 := bnext (bref w) hb1
  have S0 := Recs.of_own hO1 (by omega)
  go_wp2_with fail
  refine (specCountBelow _ n0 x0 k _ S0 (by omega)).mono ?_
  rintro e w2_ ⟨rfl, hb2⟩
  have D2 := bnext (D1) hb2
  have S0 := S0.below hb2
  go_wp2_with fail
  clear S0
  refine (toCopyS_any _ n0 x0 _ (h0.below (D2)) (by omega)).mono ?_
  rintro e w3_ ⟨rfl, hO3, hb3⟩
  have D3 := bnext (D2) hb3
  have X0 := Recs.of_own hO3 (by omega)
  go_wp2_with fail
  refine (implCountBelow _ n0 x0 k _ X0 (by omega)).mono ?_
  rintro e w4_ ⟨rfl, hb4⟩
  have D4 := bnext (D3) hb4
  have X0 := X0.below hb4
  go_wp2_with fail
  refine (toCopyS_any _ n0 x0 _ (h0.below (D4)) (by omega)).mono ?_
  rintro e w5_ ⟨rfl, hO5, hb5⟩
  have D5 := bnext (D4) hb5
  have X0 := X0.below hb5
  have T0 := Recs.of_own hO5 (by omega)
  go_wp2_with fail
  refine (eqCopyS_any _ _ n0 n0 x0 x0 _ X0 T0).mono ?_
  rintro e w6_ ⟨rfl, hb6⟩
  have D6 := bnext (D5) hb6
  have X0 := X0.below hb6
  have T0 := T0.below hb6
  go_wp2
  go_ret
  exact ⟨rfl, D6⟩
end Go.Proofs.Ytkdpfjaebhgnoaa
