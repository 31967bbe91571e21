/- The law that compares AffectedBy with the reference, walked: the results, and that marks written into the arguments and the result do not meet. -/
import Derived.Test.YtfnhcbbfhoiemaaAffected
import Derived.Test.YtfnhcbbfhoiemaaCopyS
import Derived.Test.YtfnhcbbfhoiemaaIntS
import Derived.Test.YtfnhcbbfhoiemaaMarkIntS
import Derived.Test.YtfnhcbbfhoiemaaSeq
import Derived.Test.YtfnhcbbfhoiemaaMarkCopyS
namespace Go.Proofs.Ytfnhcbbfhoiemaa
open Go.ChangeShapes Go.WideShapes Go.ChangeAt Go.RowKit
set_option maxRecDepth 100000 in
set_option maxHeartbeats 1000000 in
theorem fnExactAffectedBy_any (v0 : Value) (n0 : Nat) (x0 : List Int) (v1 : Value) (x1 : List Int) (b : Int) (s : Int) (w : World) (h0 : Recs 3 w v0 n0 x0) (h1 : Ints w v1 x1) :
    Calls Try.prog 6 #[v0, v1, .int .i64 b, .int .i64 s] w fun e w' => e = .returned (.bool true) ∧ Below w.heap.size w w' := by
  have hL := affected_len n0 x0 x1 b s
  obtain ⟨ad1, cap1, rfl⟩ : ∃ ad cap, v1 = .slice ad x1.length cap := by obtain ⟨_, ad, cap, hh, _⟩ := h1; exact ⟨ad, cap, hh⟩
  have l1 := h1.len
  by_cases q1 : (1048576 : Int) < (x1.length : Int)
  · go_enter Try.func6, Try.ntmps6
    go_wp2_with fail
    go_ret
    exact ⟨rfl, bref _⟩
  by_cases q0 : (1048576 : Int) < (n0 : Int)
  · go_enter Try.func6, Try.ntmps6
    go_wp2_with fail
    refine (szCopyS_any _ n0 x0 1048576 _ h0 (by omega) (by omega)).mono ?_
    rintro e w' ⟨rfl, rfl⟩
    rw [if_pos (by omega)]
    go_wp2
    go_ret
    exact ⟨rfl, bref _⟩
  go_enter Try.func6, Try.ntmps6
  go_wp2_with fail
  refine (szCopyS_any _ n0 x0 1048576 _ h0 (by omega) (by omega)).mono ?_
  rintro e w' ⟨rfl, rfl⟩
  rw [if_neg (by omega)]
  go_wp2_with fail
  refine (toCopyS_any _ n0 x0 _ h0 (by omega)).mono ?_
  rintro e w1_ ⟨rfl, hO1, hb1⟩
  have Z_s0 := (bref w).size
  have D1 := bnext (bref w) hb1
  have O_s0 := hO1
  clear hb1 hO1
  go_wp2_with fail
  refine (toIntS_any _ x1 _ (h1.below (D1)) (by omega)).mono ?_
  rintro e w2_ ⟨rfl, hO2, hb2⟩
  have E_s0_s1 := own_sep O_s0 hO2 (Nat.le_refl _)
  have Z_s1 := (D1).size
  have O_s0 := own_below O_s0 hb2
  have D2 := bnext (D1) hb2
  have O_s1 := hO2
  clear hb2 hO2
  go_wp2_with fail
  refine (specAffectedBy _ n0 x0 _ x1 b s _ (Recs.of_own O_s0 (by omega)) (Ints.of_own O_s1 (by omega))).mono ?_
  rintro e w3_ ⟨v_w0, rfl, hO3, hb3⟩
  have E_s0_w0 := own_sep O_s0 hO3 (Nat.le_refl _)
  have E_s1_w0 := own_sep O_s1 hO3 (Nat.le_refl _)
  have Z_w0 := (D2).size
  have O_s0 := own_below O_s0 hb3
  have O_s1 := own_below O_s1 hb3
  have D3 := bnext (D2) hb3
  have O_w0 := hO3
  clear hb3 hO3
  go_wp2_with fail
  clear O_s0
  clear O_s1
  refine (toCopyS_any _ n0 x0 _ (h0.below (D3)) (by omega)).mono ?_
  rintro e w4_ ⟨rfl, hO4, hb4⟩
  have E_w0_x0_ := own_sep O_w0 hO4 (Nat.le_refl _)
  have Z_x0_ := (D3).size
  have O_w0 := own_below O_w0 hb4
  have D4 := bnext (D3) hb4
  have O_x0_ := hO4
  clear hb4 hO4
  go_wp2_with fail
  refine (toIntS_any _ x1 _ (h1.below (D4)) (by omega)).mono ?_
  rintro e w5_ ⟨rfl, hO5, hb5⟩
  have E_w0_x1_ := own_sep O_w0 hO5 (Nat.le_refl _)
  have E_x0__x1_ := own_sep O_x0_ hO5 (Nat.le_refl _)
  have Z_x1_ := (D4).size
  have O_w0 := own_below O_w0 hb5
  have O_x0_ := own_below O_x0_ hb5
  have D5 := bnext (D4) hb5
  have O_x1_ := hO5
  clear hb5 hO5
  go_wp2_with fail
  refine (implAffectedBy _ n0 x0 _ x1 b s _ (Recs.of_own O_x0_ (by omega)) (Ints.of_own O_x1_ (by omega))).mono ?_
  rintro e w6_ ⟨v_g0, rfl, hO6, _, hb6⟩
  have E_w0_g0 := own_sep O_w0 hO6 (Nat.le_refl _)
  have E_x0__g0 := own_sep O_x0_ hO6 (Nat.le_refl _)
  have E_x1__g0 := own_sep O_x1_ hO6 (Nat.le_refl _)
  have Z_g0 := (D5).size
  have O_w0 := own_below O_w0 hb6
  have O_x0_ := own_below O_x0_ hb6
  have O_x1_ := own_below O_x1_ hb6
  have D6 := bnext (D5) hb6
  have O_g0 := hO6
  clear hb6 hO6
  go_wp2_with fail
  refine (eqIntS_bel _ _ (affected n0 x0 x1 b s) (affected n0 x0 x1 b s) _ (Ints.of_own O_g0 (by omega)) (Ints.of_own O_w0 (by omega))).mono ?_
  rintro e w7_ ⟨rfl, hb7⟩
  have O_w0 := own_below O_w0 hb7
  have O_x0_ := own_below O_x0_ hb7
  have O_x1_ := own_below O_x1_ hb7
  have O_g0 := own_below O_g0 hb7
  have D7 := bnext (D6) hb7
  clear hb7
  go_wp2_with fail
  refine (toCopyS_any _ n0 x0 _ (h0.below (D7)) (by omega)).mono ?_
  rintro e w8_ ⟨rfl, hO8, hb8⟩
  have E_w0_t := own_sep O_w0 hO8 (Nat.le_refl _)
  have E_x0__t := own_sep O_x0_ hO8 (Nat.le_refl _)
  have E_x1__t := own_sep O_x1_ hO8 (Nat.le_refl _)
  have E_g0_t := own_sep O_g0 hO8 (Nat.le_refl _)
  have Z_t := (D7).size
  have O_w0 := own_below O_w0 hb8
  have O_x0_ := own_below O_x0_ hb8
  have O_x1_ := own_below O_x1_ hb8
  have O_g0 := own_below O_g0 hb8
  have D8 := bnext (D7) hb8
  have O_t := hO8
  clear hb8 hO8
  go_wp2_with fail
  refine (eqCopyS_any _ _ n0 n0 x0 x0 _ (Recs.of_own O_x0_ (by omega)) (Recs.of_own O_t (by omega))).mono ?_
  rintro e w9_ ⟨rfl, hb9⟩
  have O_w0 := own_below O_w0 hb9
  have O_x0_ := own_below O_x0_ hb9
  have O_x1_ := own_below O_x1_ hb9
  have O_g0 := own_below O_g0 hb9
  have O_t := own_below O_t hb9
  have D9 := bnext (D8) hb9
  clear hb9
  clear O_t
  go_wp2_with fail
  refine (toIntS_any _ x1 _ (h1.below (D9)) (by omega)).mono ?_
  rintro e w10_ ⟨rfl, hO10, hb10⟩
  have E_w0_t := own_sep O_w0 hO10 (Nat.le_refl _)
  have E_x0__t := own_sep O_x0_ hO10 (Nat.le_refl _)
  have E_x1__t := own_sep O_x1_ hO10 (Nat.le_refl _)
  have E_g0_t := own_sep O_g0 hO10 (Nat.le_refl _)
  have Z_t := (D9).size
  have O_w0 := own_below O_w0 hb10
  have O_x0_ := own_below O_x0_ hb10
  have O_x1_ := own_below O_x1_ hb10
  have O_g0 := own_below O_g0 hb10
  have D10 := bnext (D9) hb10
  have O_t := hO10
  clear hb10 hO10
  go_wp2_with fail
  refine (eqIntS_bel _ _ x1 x1 _ (Ints.of_own O_x1_ (by omega)) (Ints.of_own O_t (by omega))).mono ?_
  rintro e w11_ ⟨rfl, hb11⟩
  have O_w0 := own_below O_w0 hb11
  have O_x0_ := own_below O_x0_ hb11
  have O_x1_ := own_below O_x1_ hb11
  have O_g0 := own_below O_g0 hb11
  have O_t := own_below O_t hb11
  have D11 := bnext (D10) hb11
  clear hb11
  clear O_t
  go_wp2_with fail
  refine (markCopyS_any _ n0 x0 1 _ _ _ O_x0_ (by omega) (by omega) (by omega)).mono ?_
  rintro e w12_ ⟨rfl, M_x0_, hg12⟩
  have O_w0 := own_kept O_w0 hg12 E_w0_x0_.symm
  have O_x1_ := own_kept O_x1_ hg12 E_x0__x1_
  have O_g0 := own_kept O_g0 hg12 E_x0__g0
  have D12 := below_mark (D11) hg12 O_x0_ Z_x0_
  have O_x0_ := M_x0_
  clear hg12 M_x0_
  go_wp2_with fail
  refine (markIntS_any _ x1.length x1 (1 + (n0 : Int) * 3) _ _ _ O_x1_ (by omega) (by omega) (by omega)).mono ?_
  rintro e w13_ ⟨rfl, M_x1_, hg13⟩
  have O_w0 := own_kept O_w0 hg13 E_w0_x1_.symm
  have O_x0_ := own_kept O_x0_ hg13 E_x0__x1_.symm
  have O_g0 := own_kept O_g0 hg13 E_x1__g0
  have D13 := below_mark (D12) hg13 O_x1_ Z_x1_
  have O_x1_ := M_x1_
  clear hg13 M_x1_
  go_wp2_with fail
  refine (eqIntS_bel _ _ (affected n0 x0 x1 b s) (affected n0 x0 x1 b s) _ (Ints.of_own O_g0 (by omega)) (Ints.of_own O_w0 (by omega))).mono ?_
  rintro e w14_ ⟨rfl, hb14⟩
  have O_w0 := own_below O_w0 hb14
  have O_x0_ := own_below O_x0_ hb14
  have O_x1_ := own_below O_x1_ hb14
  have O_g0 := own_below O_g0 hb14
  have D14 := bnext (D13) hb14
  clear hb14
  go_wp2_with fail
  refine (markIntS_any _ (affected n0 x0 x1 b s).length (affected n0 x0 x1 b s) 1 _ _ _ O_g0 (by omega) (by omega) (by omega)).mono ?_
  rintro e w15_ ⟨rfl, M_g0, hg15⟩
  have O_w0 := own_kept O_w0 hg15 E_w0_g0.symm
  have O_x0_ := own_kept O_x0_ hg15 E_x0__g0.symm
  have O_x1_ := own_kept O_x1_ hg15 E_x1__g0.symm
  have D15 := below_mark (D14) hg15 O_g0 Z_g0
  have O_g0 := M_g0
  clear hg15 M_g0
  go_wp2_with fail
  refine (heldIntS_any _ (affected n0 x0 x1 b s).length 1 _ (Recs.of_own O_g0 (by omega)) (by omega) (by omega) (by omega)).mono ?_
  rintro e w16_ ⟨rfl, hb16⟩
  have O_w0 := own_below O_w0 hb16
  have O_x0_ := own_below O_x0_ hb16
  have O_x1_ := own_below O_x1_ hb16
  have O_g0 := own_below O_g0 hb16
  have D16 := bnext (D15) hb16
  clear hb16
  go_wp2_with fail
  clear O_x0_
  clear O_x1_
  refine (toCopyS_any _ n0 x0 _ (h0.below (D16)) (by omega)).mono ?_
  rintro e w17_ ⟨rfl, hO17, hb17⟩
  have E_w0_s0 := own_sep O_w0 hO17 (Nat.le_refl _)
  have E_g0_s0 := own_sep O_g0 hO17 (Nat.le_refl _)
  have Z_s0 := (D16).size
  have O_w0 := own_below O_w0 hb17
  have O_g0 := own_below O_g0 hb17
  have D17 := bnext (D16) hb17
  have O_s0 := hO17
  clear hb17 hO17
  go_wp2_with fail
  refine (toIntS_any _ x1 _ (h1.below (D17)) (by omega)).mono ?_
  rintro e w18_ ⟨rfl, hO18, hb18⟩
  have E_w0_s1 := own_sep O_w0 hO18 (Nat.le_refl _)
  have E_g0_s1 := own_sep O_g0 hO18 (Nat.le_refl _)
  have E_s0_s1 := own_sep O_s0 hO18 (Nat.le_refl _)
  have Z_s1 := (D17).size
  have O_w0 := own_below O_w0 hb18
  have O_g0 := own_below O_g0 hb18
  have O_s0 := own_below O_s0 hb18
  have D18 := bnext (D17) hb18
  have O_s1 := hO18
  clear hb18 hO18
  go_wp2_with fail
  refine (implAffectedBy _ n0 x0 _ x1 b s _ (Recs.of_own O_s0 (by omega)) (Ints.of_own O_s1 (by omega))).mono ?_
  rintro e w19_ ⟨v_h0, rfl, hO19, _, hb19⟩
  have E_w0_h0 := own_sep O_w0 hO19 (Nat.le_refl _)
  have E_g0_h0 := own_sep O_g0 hO19 (Nat.le_refl _)
  have E_s0_h0 := own_sep O_s0 hO19 (Nat.le_refl _)
  have E_s1_h0 := own_sep O_s1 hO19 (Nat.le_refl _)
  have Z_h0 := (D18).size
  have O_w0 := own_below O_w0 hb19
  have O_g0 := own_below O_g0 hb19
  have O_s0 := own_below O_s0 hb19
  have O_s1 := own_below O_s1 hb19
  have D19 := bnext (D18) hb19
  have O_h0 := hO19
  clear hb19 hO19
  go_wp2_with fail
  refine (eqIntS_bel _ _ (affected n0 x0 x1 b s) (affected n0 x0 x1 b s) _ (Ints.of_own O_h0 (by omega)) (Ints.of_own O_w0 (by omega))).mono ?_
  rintro e w20_ ⟨rfl, hb20⟩
  have O_w0 := own_below O_w0 hb20
  have O_g0 := own_below O_g0 hb20
  have O_s0 := own_below O_s0 hb20
  have O_s1 := own_below O_s1 hb20
  have O_h0 := own_below O_h0 hb20
  have D20 := bnext (D19) hb20
  clear hb20
  go_wp2_with fail
  refine (heldIntS_any _ (affected n0 x0 x1 b s).length 1 _ (Recs.of_own O_g0 (by omega)) (by omega) (by omega) (by omega)).mono ?_
  rintro e w21_ ⟨rfl, hb21⟩
  have O_w0 := own_below O_w0 hb21
  have O_g0 := own_below O_g0 hb21
  have O_s0 := own_below O_s0 hb21
  have O_s1 := own_below O_s1 hb21
  have O_h0 := own_below O_h0 hb21
  have D21 := bnext (D20) hb21
  clear hb21
  go_wp2
  go_ret
  exact ⟨rfl, D21⟩
end Go.Proofs.Ytfnhcbbfhoiemaa
