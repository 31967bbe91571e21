/- The law that compares LettersFor with the reference, walked. -/
import Derived.Test.YtdchgbhhlocmdaaLettersV
import Derived.Test.YtdchgbhhlocmdaaCopyS
import Derived.Test.YtdchgbhhlocmdaaMarkO
import Derived.Test.YtdchgbhhlocmdaaIntS
import Derived.Test.YtdchgbhhlocmdaaLetMark
import Derived.Deep.RegionHeld3
namespace Go.Proofs.Ytdchgbhhlocmdaa
open Go.ChangeShapes Go.WideShapes Go.ChangeAt Go.RowKit
set_option maxRecDepth 100000 in
set_option maxHeartbeats 4000000 in
theorem fnExactLettersFor_any (v0 : Value) (n0 : Nat) (x0 : List Int) (v1 : Value) (x1 : List Int) (v2 : Value) (x2 : List Int) (w : World) (h0 : Recs 3 w v0 n0 x0) (h1 : Ints w v1 x1) (h2 : Ints w v2 x2) :
    Calls Try.prog 9 #[v0, v1, v2] w fun e w' => e = .returned (.bool true) ∧ Below w.heap.size w w' := by
  have l0 := h0.len
  obtain ⟨ad1, cap1, rfl⟩ : ∃ ad cap, v1 = .slice ad x1.length cap := by obtain ⟨_, ad, cap, hh, _⟩ := h1; exact ⟨ad, cap, hh⟩
  have l1 := h1.len
  obtain ⟨ad2, cap2, rfl⟩ : ∃ ad cap, v2 = .slice ad x2.length cap := by obtain ⟨_, ad, cap, hh, _⟩ := h2; exact ⟨ad, cap, hh⟩
  have l2 := h2.len
  by_cases q1 : (1048576 : Int) < ((x1).length : Int)
  · skip
    go_enter Try.func9, Try.ntmps9
    go_wp2
    go_ret
    exact ⟨rfl, (bref w)⟩
  by_cases q2 : (1048576 : Int) < ((x2).length : Int)
  · skip
    go_enter Try.func9, Try.ntmps9
    go_wp2
    go_ret
    exact ⟨rfl, (bref w)⟩
  by_cases q0 : (1048576 : Int) < (n0 : Int)
  · skip
    go_enter Try.func9, Try.ntmps9
    go_wp2_with fail
    refine (szCopyS_any _ n0 x0 (1048576) _ h0 (by omega) (by omega)).mono ?_
    rintro e w' ⟨rfl, rfl⟩
    rw [if_pos (by omega)]
    go_wp2
    go_ret
    exact ⟨rfl, (bref w)⟩
  have hN := lettersFor_b n0 x0 x1 x2 (by omega)
  have hK := mAll_bd hN
  go_enter Try.func9, Try.ntmps9
  go_wp2_with fail
  refine (szCopyS_any _ n0 x0 (1048576) _ h0 (by omega) (by omega)).mono ?_
  rintro e w' ⟨rfl, rfl⟩
  rw [if_neg (by omega)]
  go_wp2_with fail
  refine (toCopyS_any _ n0 x0 _ h0 (by omega)).mono ?_
  rintro e w1_ ⟨rfl, hO1, hb1⟩
  have T1 := hb1
  have Z1 := hb1.size
  have D1 := bnext (bref w) T1
  have O_s0 := RowO.of hO1
  clear hO1
  clear T1 hb1
  go_wp2_with fail
  refine (toIntS_any _ (x1) _ (h1.below D1) (by omega)).mono ?_
  rintro e w2_ ⟨rfl, hO2, hb2⟩
  have T2 := hb2
  have Z2 := hb2.size
  replace O_s0 := O_s0.below T2
  have D2 := bnext D1 T2
  have O_s1 := RowO.of hO2
  clear hO2
  clear T2 hb2
  go_wp2_with fail
  refine (toIntS_any _ (x2) _ (h2.below D2) (by omega)).mono ?_
  rintro e w3_ ⟨rfl, hO3, hb3⟩
  have T3 := hb3
  have Z3 := hb3.size
  replace O_s0 := O_s0.below T3
  replace O_s1 := O_s1.below T3
  have D3 := bnext D2 T3
  have O_s2 := RowO.of hO3
  clear hO3
  clear T3 hb3
  go_wp2_with fail
  refine (specLettersV _ n0 x0 _ x1 _ x2 _ (O_s0.recs (by omega)) (O_s1.ints (by omega)) (O_s2.ints (by omega)) (nilOk_some _ _ _) (by omega)).mono ?_
  rintro e w4_ ⟨v0_4, rfl, hO4, hb4⟩
  have T4 := hb4
  have Z4 := hb4.size
  replace O_s0 := O_s0.below T4
  replace O_s1 := O_s1.below T4
  replace O_s2 := O_s2.below T4
  have D4 := bnext D3 T4
  have O_w0 := hO4
  clear hO4
  clear T4 hb4
  go_wp2_with fail
  clear O_s0
  clear O_s1
  clear O_s2
  refine (toCopyS_any _ n0 x0 _ (h0.below D4) (by omega)).mono ?_
  rintro e w5_ ⟨rfl, hO5, hb5⟩
  have T5 := hb5
  have Z5 := hb5.size
  replace O_w0 := O_w0.below T5
  have D5 := bnext D4 T5
  have O_x0 := RowO.of hO5
  clear hO5
  clear T5 hb5
  go_wp2_with fail
  refine (toIntS_any _ (x1) _ (h1.below D5) (by omega)).mono ?_
  rintro e w6_ ⟨rfl, hO6, hb6⟩
  have T6 := hb6
  have Z6 := hb6.size
  replace O_w0 := O_w0.below T6
  replace O_x0 := O_x0.below T6
  have D6 := bnext D5 T6
  have O_x1 := RowO.of hO6
  clear hO6
  clear T6 hb6
  go_wp2_with fail
  refine (toIntS_any _ (x2) _ (h2.below D6) (by omega)).mono ?_
  rintro e w7_ ⟨rfl, hO7, hb7⟩
  have T7 := hb7
  have Z7 := hb7.size
  replace O_w0 := O_w0.below T7
  replace O_x0 := O_x0.below T7
  replace O_x1 := O_x1.below T7
  have D7 := bnext D6 T7
  have O_x2 := RowO.of hO7
  clear hO7
  clear T7 hb7
  go_wp2_with fail
  refine (implLettersV _ n0 x0 _ x1 _ x2 _ (O_x0.recs (by omega)) (O_x1.ints (by omega)) (O_x2.ints (by omega)) (nilOk_some _ _ _) (by omega)).mono ?_
  rintro e w8_ ⟨v0_8, rfl, hO8, hb8⟩
  have T8 := hb8
  have Z8 := hb8.size
  replace O_w0 := O_w0.below T8
  replace O_x0 := O_x0.below T8
  replace O_x1 := O_x1.below T8
  replace O_x2 := O_x2.below T8
  have D8 := bnext D7 T8
  have O_g0 := hO8
  clear hO8
  clear T8 hb8
  go_wp2_with fail
  refine (eqLetterS_any _ _ (lettersFor n0 x0 x1 x2) (lettersFor n0 x0 x1 x2) _ (O_g0.read hN) (O_w0.read hN)).mono ?_
  rintro e w9_ ⟨rfl, hb9⟩
  have T9 := hb9
  have Z9 := hb9.size
  replace O_w0 := O_w0.below T9
  replace O_x0 := O_x0.below T9
  replace O_x1 := O_x1.below T9
  replace O_x2 := O_x2.below T9
  replace O_g0 := O_g0.below T9
  have D9 := bnext D8 T9
  clear T9 hb9
  go_wp2_with fail
  refine (toCopyS_any _ n0 x0 _ (h0.below D9) (by omega)).mono ?_
  rintro e w10_ ⟨rfl, hO10, hb10⟩
  have T10 := hb10
  have Z10 := hb10.size
  replace O_w0 := O_w0.below T10
  replace O_x0 := O_x0.below T10
  replace O_x1 := O_x1.below T10
  replace O_x2 := O_x2.below T10
  replace O_g0 := O_g0.below T10
  have D10 := bnext D9 T10
  have O_t := RowO.of hO10
  clear hO10
  clear T10 hb10
  go_wp2_with fail
  refine (eqCopyS_any _ _ n0 n0 (x0) (x0) _ (O_x0.recs (by omega)) (O_t.recs (by omega))).mono ?_
  rintro e w11_ ⟨rfl, hb11⟩
  have T11 := hb11
  have Z11 := hb11.size
  replace O_w0 := O_w0.below T11
  replace O_x0 := O_x0.below T11
  replace O_x1 := O_x1.below T11
  replace O_x2 := O_x2.below T11
  replace O_g0 := O_g0.below T11
  replace O_t := O_t.below T11
  have D11 := bnext D10 T11
  clear T11 hb11
  clear O_t
  go_wp2_with fail
  refine (toIntS_any _ (x1) _ (h1.below D11) (by omega)).mono ?_
  rintro e w12_ ⟨rfl, hO12, hb12⟩
  have T12 := hb12
  have Z12 := hb12.size
  replace O_w0 := O_w0.below T12
  replace O_x0 := O_x0.below T12
  replace O_x1 := O_x1.below T12
  replace O_x2 := O_x2.below T12
  replace O_g0 := O_g0.below T12
  have D12 := bnext D11 T12
  have O_t := RowO.of hO12
  clear hO12
  clear T12 hb12
  go_wp2_with fail
  refine (eqIntS_bel _ _ (x1) (x1) _ (O_x1.ints (by omega)) (O_t.ints (by omega))).mono ?_
  rintro e w13_ ⟨rfl, hb13⟩
  have T13 := hb13
  have Z13 := hb13.size
  replace O_w0 := O_w0.below T13
  replace O_x0 := O_x0.below T13
  replace O_x1 := O_x1.below T13
  replace O_x2 := O_x2.below T13
  replace O_g0 := O_g0.below T13
  replace O_t := O_t.below T13
  have D13 := bnext D12 T13
  clear T13 hb13
  clear O_t
  go_wp2_with fail
  refine (toIntS_any _ (x2) _ (h2.below D13) (by omega)).mono ?_
  rintro e w14_ ⟨rfl, hO14, hb14⟩
  have T14 := hb14
  have Z14 := hb14.size
  replace O_w0 := O_w0.below T14
  replace O_x0 := O_x0.below T14
  replace O_x1 := O_x1.below T14
  replace O_x2 := O_x2.below T14
  replace O_g0 := O_g0.below T14
  have D14 := bnext D13 T14
  have O_t := RowO.of hO14
  clear hO14
  clear T14 hb14
  go_wp2_with fail
  refine (eqIntS_bel _ _ (x2) (x2) _ (O_x2.ints (by omega)) (O_t.ints (by omega))).mono ?_
  rintro e w15_ ⟨rfl, hb15⟩
  have T15 := hb15
  have Z15 := hb15.size
  replace O_w0 := O_w0.below T15
  replace O_x0 := O_x0.below T15
  replace O_x1 := O_x1.below T15
  replace O_x2 := O_x2.below T15
  replace O_g0 := O_g0.below T15
  replace O_t := O_t.below T15
  have D15 := bnext D14 T15
  clear T15 hb15
  clear O_t
  go_wp2_with fail
  refine (markCopyS_o _ n0 (x0) (1) _ _ _ _ O_x0 (by omega) (by omega) (by omega)).mono ?_
  rintro e w16_ ⟨rfl, hO16, hb16⟩
  have T16 := hb16
  have Z16 := T16.size
  replace O_w0 := O_w0.only T16 (by unfold Off; omega)
  replace O_x1 := O_x1.only T16 (by unfold Off; omega)
  replace O_x2 := O_x2.only T16 (by unfold Off; omega)
  replace O_g0 := O_g0.only T16 (by unfold Off; omega)
  have D16 := Only.below D15 T16 (by omega)
  replace O_x0 := hO16
  clear hO16
  clear T16 hb16
  go_wp2_with fail
  refine (markIntS_o _ (x1).length (x1) (1 + (n0 : Int) * 3) _ _ _ _ O_x1 (by omega) (by omega) (by omega)).mono ?_
  rintro e w17_ ⟨rfl, hO17, hb17⟩
  have T17 := hb17
  have Z17 := T17.size
  replace O_w0 := O_w0.only T17 (by unfold Off; omega)
  replace O_x0 := O_x0.only T17 (by unfold Off; omega)
  replace O_x2 := O_x2.only T17 (by unfold Off; omega)
  replace O_g0 := O_g0.only T17 (by unfold Off; omega)
  have D17 := Only.below D16 T17 (by omega)
  replace O_x1 := hO17
  clear hO17
  clear T17 hb17
  go_wp2_with fail
  refine (markIntS_o _ (x2).length (x2) (1 + (n0 : Int) * 3 + ((x1).length : Int)) _ _ _ _ O_x2 (by omega) (by omega) (by omega)).mono ?_
  rintro e w18_ ⟨rfl, hO18, hb18⟩
  have T18 := hb18
  have Z18 := T18.size
  replace O_w0 := O_w0.only T18 (by unfold Off; omega)
  replace O_x0 := O_x0.only T18 (by unfold Off; omega)
  replace O_x1 := O_x1.only T18 (by unfold Off; omega)
  replace O_g0 := O_g0.only T18 (by unfold Off; omega)
  have D18 := Only.below D17 T18 (by omega)
  replace O_x2 := hO18
  clear hO18
  clear T18 hb18
  go_wp2_with fail
  refine (eqLetterS_any _ _ (lettersFor n0 x0 x1 x2) (lettersFor n0 x0 x1 x2) _ (O_g0.read hN) (O_w0.read hN)).mono ?_
  rintro e w19_ ⟨rfl, hb19⟩
  have T19 := hb19
  have Z19 := hb19.size
  replace O_w0 := O_w0.below T19
  replace O_x0 := O_x0.below T19
  replace O_x1 := O_x1.below T19
  replace O_x2 := O_x2.below T19
  replace O_g0 := O_g0.below T19
  have D19 := bnext D18 T19
  clear T19 hb19
  go_wp2_with fail
  clear O_x0
  clear O_x1
  clear O_x2
  refine (markLetterS_o _ (lettersFor n0 x0 x1 x2) (1) _ _ _ O_g0 hN (by omega) (by omega)).mono ?_
  rintro e w20_ ⟨rfl, hO20, hb20⟩
  have T20 := hb20
  have Z20 := T20.size
  replace O_w0 := O_w0.only T20 (by unfold Off; omega)
  have D20 := Only.below D19 T20 (by omega)
  replace O_g0 := hO20
  clear hO20
  clear T20 hb20
  go_wp2_with fail
  refine (heldLetterS_o _ (lettersFor n0 x0 x1 x2) (1) _ _ _ O_g0 hN (by omega) (by omega)).mono ?_
  rintro e w21_ ⟨rfl, hb21⟩
  have T21 := hb21
  have Z21 := hb21.size
  replace O_w0 := O_w0.below T21
  replace O_g0 := O_g0.below T21
  have D21 := bnext D20 T21
  clear T21 hb21
  go_wp2_with fail
  refine (toCopyS_any _ n0 x0 _ (h0.below D21) (by omega)).mono ?_
  rintro e w22_ ⟨rfl, hO22, hb22⟩
  have T22 := hb22
  have Z22 := hb22.size
  replace O_w0 := O_w0.below T22
  replace O_g0 := O_g0.below T22
  have D22 := bnext D21 T22
  have O_s0 := RowO.of hO22
  clear hO22
  clear T22 hb22
  go_wp2_with fail
  refine (toIntS_any _ (x1) _ (h1.below D22) (by omega)).mono ?_
  rintro e w23_ ⟨rfl, hO23, hb23⟩
  have T23 := hb23
  have Z23 := hb23.size
  replace O_w0 := O_w0.below T23
  replace O_g0 := O_g0.below T23
  replace O_s0 := O_s0.below T23
  have D23 := bnext D22 T23
  have O_s1 := RowO.of hO23
  clear hO23
  clear T23 hb23
  go_wp2_with fail
  refine (toIntS_any _ (x2) _ (h2.below D23) (by omega)).mono ?_
  rintro e w24_ ⟨rfl, hO24, hb24⟩
  have T24 := hb24
  have Z24 := hb24.size
  replace O_w0 := O_w0.below T24
  replace O_g0 := O_g0.below T24
  replace O_s0 := O_s0.below T24
  replace O_s1 := O_s1.below T24
  have D24 := bnext D23 T24
  have O_s2 := RowO.of hO24
  clear hO24
  clear T24 hb24
  go_wp2_with fail
  refine (implLettersV _ n0 x0 _ x1 _ x2 _ (O_s0.recs (by omega)) (O_s1.ints (by omega)) (O_s2.ints (by omega)) (nilOk_some _ _ _) (by omega)).mono ?_
  rintro e w25_ ⟨v0_25, rfl, hO25, hb25⟩
  have T25 := hb25
  have Z25 := hb25.size
  replace O_w0 := O_w0.below T25
  replace O_g0 := O_g0.below T25
  replace O_s0 := O_s0.below T25
  replace O_s1 := O_s1.below T25
  replace O_s2 := O_s2.below T25
  have D25 := bnext D24 T25
  have O_h0 := hO25
  clear hO25
  clear T25 hb25
  go_wp2_with fail
  clear O_s0
  clear O_s1
  clear O_s2
  refine (eqLetterS_any _ _ (lettersFor n0 x0 x1 x2) (lettersFor n0 x0 x1 x2) _ (O_h0.read hN) (O_w0.read hN)).mono ?_
  rintro e w26_ ⟨rfl, hb26⟩
  have T26 := hb26
  have Z26 := hb26.size
  replace O_w0 := O_w0.below T26
  replace O_g0 := O_g0.below T26
  replace O_h0 := O_h0.below T26
  have D26 := bnext D25 T26
  clear T26 hb26
  go_wp2_with fail
  refine (heldLetterS_o _ (lettersFor n0 x0 x1 x2) (1) _ _ _ O_g0 hN (by omega) (by omega)).mono ?_
  rintro e w27_ ⟨rfl, hb27⟩
  have T27 := hb27
  have Z27 := hb27.size
  replace O_w0 := O_w0.below T27
  replace O_g0 := O_g0.below T27
  replace O_h0 := O_h0.below T27
  have D27 := bnext D26 T27
  clear T27 hb27
  go_wp2
  go_ret
  exact ⟨rfl, D27⟩
end Go.Proofs.Ytdchgbhhlocmdaa
