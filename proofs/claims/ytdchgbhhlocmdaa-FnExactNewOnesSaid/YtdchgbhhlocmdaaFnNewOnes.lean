/- The law that compares NewOnes with the reference, walked. -/
import Derived.Test.YtdchgbhhlocmdaaNewOnes
import Derived.Test.YtdchgbhhlocmdaaIntS
import Derived.Test.YtdchgbhhlocmdaaMarkO
import Derived.Deep.RegionHeld3
namespace Go.Proofs.Ytdchgbhhlocmdaa
open Go.ChangeShapes Go.WideShapes Go.ChangeAt Go.RowKit
set_option maxRecDepth 100000 in
set_option maxHeartbeats 4000000 in
theorem fnExactNewOnes_any (v0 : Value) (x0 : List Int) (v1 : Value) (x1 : List Int) (w : World) (h0 : Ints w v0 x0) (h1 : Ints w v1 x1) :
    Calls Try.prog 8 #[v0, v1] w fun e w' => e = .returned (.bool true) ∧ Below w.heap.size w w' := by
  have hL := newOnes_len x0 x1
  obtain ⟨ad0, cap0, rfl⟩ : ∃ ad cap, v0 = .slice ad x0.length cap := by obtain ⟨_, ad, cap, hh, _⟩ := h0; exact ⟨ad, cap, hh⟩
  have l0 := h0.len
  obtain ⟨ad1, cap1, rfl⟩ : ∃ ad cap, v1 = .slice ad x1.length cap := by obtain ⟨_, ad, cap, hh, _⟩ := h1; exact ⟨ad, cap, hh⟩
  have l1 := h1.len
  by_cases q0 : (1048576 : Int) < ((x0).length : Int)
  · skip
    go_enter Try.func8, Try.ntmps8
    go_wp2
    go_ret
    exact ⟨rfl, (bref w)⟩
  by_cases q1 : (1048576 : Int) < ((x1).length : Int)
  · skip
    go_enter Try.func8, Try.ntmps8
    go_wp2
    go_ret
    exact ⟨rfl, (bref w)⟩
  go_enter Try.func8, Try.ntmps8
  go_wp2_with fail
  refine (toIntS_any _ (x0) _ h0 (by omega)).mono ?_
  rintro e w1_ ⟨rfl, hO1, hb1⟩
  have T1 := hb1
  have Z1 := hb1.size
  have D1 := bnext (bref w) T1
  have O_s0 := RowO.of hO1
  clear hO1
  clear T1 hb1
  go_wp2_with fail
  refine (toIntS_any _ (x1) _ (h1.below D1) (by omega)).mono ?_
  rintro e w2_ ⟨rfl, hO2, hb2⟩
  have T2 := hb2
  have Z2 := hb2.size
  replace O_s0 := O_s0.below T2
  have D2 := bnext D1 T2
  have O_s1 := RowO.of hO2
  clear hO2
  clear T2 hb2
  go_wp2_with fail
  refine (specNewOnesV _ x0 _ x1 _ (O_s0.ints (by omega)) (O_s1.ints (by omega)) (nilOk_some _ _ _) (by omega)).mono ?_
  rintro e w3_ ⟨v0_3, rfl, hO3, hb3⟩
  have T3 := hb3
  have Z3 := hb3.size
  replace O_s0 := O_s0.below T3
  replace O_s1 := O_s1.below T3
  have D3 := bnext D2 T3
  have O_w0 := RowO.of hO3
  clear hO3
  clear T3 hb3
  go_wp2_with fail
  clear O_s0
  clear O_s1
  refine (toIntS_any _ (x0) _ (h0.below D3) (by omega)).mono ?_
  rintro e w4_ ⟨rfl, hO4, hb4⟩
  have T4 := hb4
  have Z4 := hb4.size
  replace O_w0 := O_w0.below T4
  have D4 := bnext D3 T4
  have O_x0 := RowO.of hO4
  clear hO4
  clear T4 hb4
  go_wp2_with fail
  refine (toIntS_any _ (x1) _ (h1.below D4) (by omega)).mono ?_
  rintro e w5_ ⟨rfl, hO5, hb5⟩
  have T5 := hb5
  have Z5 := hb5.size
  replace O_w0 := O_w0.below T5
  replace O_x0 := O_x0.below T5
  have D5 := bnext D4 T5
  have O_x1 := RowO.of hO5
  clear hO5
  clear T5 hb5
  go_wp2_with fail
  refine (implNewOnesV _ x0 _ x1 _ (O_x0.ints (by omega)) (O_x1.ints (by omega)) (nilOk_some _ _ _) (by omega)).mono ?_
  rintro e w6_ ⟨v0_6, rfl, hO6, hb6⟩
  have T6 := hb6
  have Z6 := hb6.size
  replace O_w0 := O_w0.below T6
  replace O_x0 := O_x0.below T6
  replace O_x1 := O_x1.below T6
  have D6 := bnext D5 T6
  have O_g0 := RowO.of hO6
  clear hO6
  clear T6 hb6
  go_wp2_with fail
  refine (eqIntS_bel _ _ (newOnes x0 x1) (newOnes x0 x1) _ (O_g0.ints (by omega)) (O_w0.ints (by omega))).mono ?_
  rintro e w7_ ⟨rfl, hb7⟩
  have T7 := hb7
  have Z7 := hb7.size
  replace O_w0 := O_w0.below T7
  replace O_x0 := O_x0.below T7
  replace O_x1 := O_x1.below T7
  replace O_g0 := O_g0.below T7
  have D7 := bnext D6 T7
  clear T7 hb7
  go_wp2_with fail
  refine (toIntS_any _ (x0) _ (h0.below D7) (by omega)).mono ?_
  rintro e w8_ ⟨rfl, hO8, hb8⟩
  have T8 := hb8
  have Z8 := hb8.size
  replace O_w0 := O_w0.below T8
  replace O_x0 := O_x0.below T8
  replace O_x1 := O_x1.below T8
  replace O_g0 := O_g0.below T8
  have D8 := bnext D7 T8
  have O_t := RowO.of hO8
  clear hO8
  clear T8 hb8
  go_wp2_with fail
  refine (eqIntS_bel _ _ (x0) (x0) _ (O_x0.ints (by omega)) (O_t.ints (by omega))).mono ?_
  rintro e w9_ ⟨rfl, hb9⟩
  have T9 := hb9
  have Z9 := hb9.size
  replace O_w0 := O_w0.below T9
  replace O_x0 := O_x0.below T9
  replace O_x1 := O_x1.below T9
  replace O_g0 := O_g0.below T9
  replace O_t := O_t.below T9
  have D9 := bnext D8 T9
  clear T9 hb9
  clear O_t
  go_wp2_with fail
  refine (toIntS_any _ (x1) _ (h1.below D9) (by omega)).mono ?_
  rintro e w10_ ⟨rfl, hO10, hb10⟩
  have T10 := hb10
  have Z10 := hb10.size
  replace O_w0 := O_w0.below T10
  replace O_x0 := O_x0.below T10
  replace O_x1 := O_x1.below T10
  replace O_g0 := O_g0.below T10
  have D10 := bnext D9 T10
  have O_t := RowO.of hO10
  clear hO10
  clear T10 hb10
  go_wp2_with fail
  refine (eqIntS_bel _ _ (x1) (x1) _ (O_x1.ints (by omega)) (O_t.ints (by omega))).mono ?_
  rintro e w11_ ⟨rfl, hb11⟩
  have T11 := hb11
  have Z11 := hb11.size
  replace O_w0 := O_w0.below T11
  replace O_x0 := O_x0.below T11
  replace O_x1 := O_x1.below T11
  replace O_g0 := O_g0.below T11
  replace O_t := O_t.below T11
  have D11 := bnext D10 T11
  clear T11 hb11
  clear O_t
  go_wp2_with fail
  refine (markIntS_o _ (x0).length (x0) (1) _ _ _ _ O_x0 (by omega) (by omega) (by omega)).mono ?_
  rintro e w12_ ⟨rfl, hO12, hb12⟩
  have T12 := hb12
  have Z12 := T12.size
  replace O_w0 := O_w0.only T12 (by unfold Off; omega)
  replace O_x1 := O_x1.only T12 (by unfold Off; omega)
  replace O_g0 := O_g0.only T12 (by unfold Off; omega)
  have D12 := Only.below D11 T12 (by omega)
  replace O_x0 := hO12
  clear hO12
  clear T12 hb12
  go_wp2_with fail
  refine (markIntS_o _ (x1).length (x1) (1 + ((x0).length : Int)) _ _ _ _ O_x1 (by omega) (by omega) (by omega)).mono ?_
  rintro e w13_ ⟨rfl, hO13, hb13⟩
  have T13 := hb13
  have Z13 := T13.size
  replace O_w0 := O_w0.only T13 (by unfold Off; omega)
  replace O_x0 := O_x0.only T13 (by unfold Off; omega)
  replace O_g0 := O_g0.only T13 (by unfold Off; omega)
  have D13 := Only.below D12 T13 (by omega)
  replace O_x1 := hO13
  clear hO13
  clear T13 hb13
  go_wp2_with fail
  refine (eqIntS_bel _ _ (newOnes x0 x1) (newOnes x0 x1) _ (O_g0.ints (by omega)) (O_w0.ints (by omega))).mono ?_
  rintro e w14_ ⟨rfl, hb14⟩
  have T14 := hb14
  have Z14 := hb14.size
  replace O_w0 := O_w0.below T14
  replace O_x0 := O_x0.below T14
  replace O_x1 := O_x1.below T14
  replace O_g0 := O_g0.below T14
  have D14 := bnext D13 T14
  clear T14 hb14
  go_wp2_with fail
  clear O_x0
  clear O_x1
  refine (markIntS_o _ (newOnes x0 x1).length (newOnes x0 x1) (1) _ _ _ _ O_g0 (by omega) (by omega) (by omega)).mono ?_
  rintro e w15_ ⟨rfl, hO15, hb15⟩
  have T15 := hb15
  have Z15 := T15.size
  replace O_w0 := O_w0.only T15 (by unfold Off; omega)
  have D15 := Only.below D14 T15 (by omega)
  replace O_g0 := hO15
  clear hO15
  clear T15 hb15
  go_wp2_with fail
  refine (heldIntS_o _ (newOnes x0 x1).length (1) _ _ _ _ O_g0 (by omega) (by omega) (by omega)).mono ?_
  rintro e w16_ ⟨rfl, hb16⟩
  have T16 := hb16
  have Z16 := hb16.size
  replace O_w0 := O_w0.below T16
  replace O_g0 := O_g0.below T16
  have D16 := bnext D15 T16
  clear T16 hb16
  go_wp2_with fail
  refine (toIntS_any _ (x0) _ (h0.below D16) (by omega)).mono ?_
  rintro e w17_ ⟨rfl, hO17, hb17⟩
  have T17 := hb17
  have Z17 := hb17.size
  replace O_w0 := O_w0.below T17
  replace O_g0 := O_g0.below T17
  have D17 := bnext D16 T17
  have O_s0 := RowO.of hO17
  clear hO17
  clear T17 hb17
  go_wp2_with fail
  refine (toIntS_any _ (x1) _ (h1.below D17) (by omega)).mono ?_
  rintro e w18_ ⟨rfl, hO18, hb18⟩
  have T18 := hb18
  have Z18 := hb18.size
  replace O_w0 := O_w0.below T18
  replace O_g0 := O_g0.below T18
  replace O_s0 := O_s0.below T18
  have D18 := bnext D17 T18
  have O_s1 := RowO.of hO18
  clear hO18
  clear T18 hb18
  go_wp2_with fail
  refine (implNewOnesV _ x0 _ x1 _ (O_s0.ints (by omega)) (O_s1.ints (by omega)) (nilOk_some _ _ _) (by omega)).mono ?_
  rintro e w19_ ⟨v0_19, rfl, hO19, hb19⟩
  have T19 := hb19
  have Z19 := hb19.size
  replace O_w0 := O_w0.below T19
  replace O_g0 := O_g0.below T19
  replace O_s0 := O_s0.below T19
  replace O_s1 := O_s1.below T19
  have D19 := bnext D18 T19
  have O_h0 := RowO.of hO19
  clear hO19
  clear T19 hb19
  go_wp2_with fail
  clear O_s0
  clear O_s1
  refine (eqIntS_bel _ _ (newOnes x0 x1) (newOnes x0 x1) _ (O_h0.ints (by omega)) (O_w0.ints (by omega))).mono ?_
  rintro e w20_ ⟨rfl, hb20⟩
  have T20 := hb20
  have Z20 := hb20.size
  replace O_w0 := O_w0.below T20
  replace O_g0 := O_g0.below T20
  replace O_h0 := O_h0.below T20
  have D20 := bnext D19 T20
  clear T20 hb20
  go_wp2_with fail
  refine (heldIntS_o _ (newOnes x0 x1).length (1) _ _ _ _ O_g0 (by omega) (by omega) (by omega)).mono ?_
  rintro e w21_ ⟨rfl, hb21⟩
  have T21 := hb21
  have Z21 := hb21.size
  replace O_w0 := O_w0.below T21
  replace O_g0 := O_g0.below T21
  replace O_h0 := O_h0.below T21
  have D21 := bnext D20 T21
  clear T21 hb21
  go_wp2
  go_ret
  exact ⟨rfl, D21⟩
end Go.Proofs.Ytdchgbhhlocmdaa
