/- The walk of LeastMore in the reference. -/
import Derived.Test.YtfnhcbbfhoiemaaMoreFn
import Derived.Deep.RegionHeld3
import Derived.Deep.RegionLaw
import Derived.Deep.DeepCutAuto
namespace Go.Proofs.Ytfnhcbbfhoiemaa
open Go.ChangeShapes Go.WideShapes Go.ChangeAt Go.RowKit

set_option maxRecDepth 100000 in
set_option maxHeartbeats 4000000 in
theorem specLeastMore (nm : Int) (v : Value) (xs : List Int) (w : World) (h : Ints w v xs) (hn : NilOk v) (h20 : xs.length ≤ 1048576) : Calls Try.prog 29 #[.agg #[.int .i64 nm, v]] w fun e w' => e = .returned (.int .i64 (leastMore nm xs)) ∧ Below w.heap.size w w' := by
  obtain ⟨i0, hi0, hz0, hz1, hz2⟩ := info_parts infoInt'
  obtain ⟨adv, capv, rfl⟩ : ∃ ad cap, v = .slice ad xs.length cap := by obtain ⟨_, ad, cap, hh, _⟩ := h; exact ⟨ad, cap, hh⟩
  go_enter Try.func29, Try.ntmps29
  go_wp2
  have b0 : (w.alloc (.cells #[.int .i64 nm, .slice adv xs.length capv] 44)).cell? ⟨w.heap.size, 0, none⟩ = some (.int .i64 nm) := by go_simp
  have b1 : (w.alloc (.cells #[.int .i64 nm, .slice adv xs.length capv] 44)).cell? ⟨w.heap.size, 1, none⟩ = some (.slice adv xs.length capv) := by go_simp
  have D1 := Lib.hid (balloc (bref w) (.cells #[.int .i64 nm, .slice adv xs.length capv] 44))
  have sz : w.heap.size < (w.alloc (.cells #[.int .i64 nm, .slice adv xs.length capv] 44)).heap.size := by simp
  generalize w.alloc (.cells #[.int .i64 nm, .slice adv xs.length capv] 44) = w0 at *
  have B0 := Lib.hid (And.intro b0 b1)
  clear b0 b1
  go_loopw [3] (fun n wr => ∃ k : Nat, n = .int .i64 k ∧ k ≤ 20001 ∧ Hid (Below w0.heap.size w0 wr) ∧ Hid (leastMore nm xs = leastFrom nm xs (20002 - k) k)) (fun n _ => 20002 - (intOf n).toNat)
  case atStart => exact ⟨0, rfl, by omega, bref _, rfl⟩
  case round =>
    obtain ⟨k, rfl, hk, HW, HL⟩ := hrel
    have hi := h.below (bnext D1.out HW.out)
    have b0 := (HW.out.cell (p := ⟨w.heap.size, 0, none⟩) sz).trans B0.out.1
    have b1 := (HW.out.cell (p := ⟨w.heap.size, 1, none⟩) sz).trans B0.out.2
    cases h0 : lotOk nm xs with
    | false =>
      have HE := Lib.hid (leastMore_no h0)
      go_wp2_with (first | (go_at_call 67; refine (specLotOk_any nm _ xs _ hi).mono ?_; rw [h0]; rintro e w1 ⟨rfl, hb1⟩))
      go_ret
      exact ⟨by rw [HE.out]; exact ret_int rfl, bnext (bnext D1.out HW.out) hb1⟩
    | true =>
      obtain ⟨_, _, hl1, hl2, hel⟩ := lotOk_in h0
      have HX := Lib.hid hel
      clear hel
      go_upto_region 4 with (go_at_call 67; refine (specLotOk_any nm _ xs _ hi).mono ?_; rw [h0]; rintro e w1 ⟨rfl, hb1⟩)
      have HD := Lib.hid (bnext HW.out hb1)
      replace hi := hi.below hb1
      replace b0 := (hb1.cell (p := ⟨w.heap.size, 0, none⟩) (Nat.lt_of_lt_of_le sz HW.out.size)).trans b0
      replace b1 := (hb1.cell (p := ⟨w.heap.size, 1, none⟩) (Nat.lt_of_lt_of_le sz HW.out.size)).trans b1
      have z1 : w.heap.size < w1.heap.size := Nat.lt_of_lt_of_le sz HD.out.size
      clear hb1
      go_cut [4] from 6 to 40 (fun p wx => ∃ X u, p = .pointer (some ⟨X, 0, none⟩) ∧ MoreS w1.heap.size nm X u xs wx ∧ Below w1.heap.size w1 wx)
      case first =>
        have R1 := Lib.hid (own_below (World.ownsRow_lit (e := 3) (size := 1) w1 #[] 0 (Nat.le_refl _) (by decide) rfl) (bdrew (bref (w1.alloc (.cells #[] 3)))))
        have R2 := Lib.hid (own_below (World.ownsRow_lit (e := 3) (size := 1) w1 #[] 0 (Nat.le_refl _) (by decide) rfl) (bdrew (balloc (bref (w1.alloc (.cells #[] 3))) (.cells #[.int .i64 0, .slice none 0 0] 44))))
        have R3 := Lib.hid (own_base (own_below (World.ownsRow_lit (e := 3) (size := 1) (w1.alloc (.cells #[.int .i64 0, .slice none 0 0] 44)) #[] 0 (Nat.le_refl _) (by decide) rfl) (bdrew (bref ((w1.alloc (.cells #[.int .i64 0, .slice none 0 0] 44)).alloc (.cells #[] 3))))) (show w1.heap.size ≤ (w1.alloc (.cells #[.int .i64 0, .slice none 0 0] 44)).heap.size by simp))
        simp only [World.size_alloc] at R3
        have F2 := Lib.hid (show ZeroAt ((w1.alloc (.cells #[] 3)).alloc (.cells #[.int .i64 0, .slice none 0 0] 44)).drew (w1.heap.size + 1) from ⟨by first | (simp [World.drew]; done) | (simp [World.drew]; omega), by go_simp, by go_simp, by go_simp, by go_simp⟩)
        have F3 := Lib.hid (show ZeroAt ((w1.alloc (.cells #[.int .i64 0, .slice none 0 0] 44)).alloc (.cells #[] 3)).drew w1.heap.size from ⟨by first | (simp [World.drew]; done) | (simp [World.drew]; omega), by go_simp, by go_simp, by go_simp, by go_simp⟩)
        go_region_held3 (fun w' => w'.cell? ⟨w.heap.size, 0, none⟩ = some (.int .i64 nm) ∧ w'.cell? ⟨w.heap.size, 1, none⟩ = some (.slice adv xs.length capv))
          (refine ⟨?_, ?_⟩ <;> go_simp)
          (first | (refine step_append_src rfl _ _ 25 rfl w1.heap.size 3 i0 (.int .i64 0) 1 8 Try.underlying25 hi0 hz0 hz1 hz2 rfl (by decide) (.slice (some ⟨w1.heap.size, 0, none⟩) 0 0) 0 [] rfl R1.out _ xs.length xs rfl (ints_recs (hi.below (bdrew (balloc (bref w1) (.cells #[] 3))))) hn (by omega) (by decide) (by first | (simp [World.drew]; done) | (simp [World.drew]; omega)) ?_; intro v' wa hown hgrow hat; rw [Nat.zero_add, List.nil_append] at hown; obtain ⟨ac, cc, rfl⟩ := own_form hown; have HB := Lib.hid ((bdrew (balloc (bref w1) (.cells #[] 3))).grown hgrow (by first | (simp [World.drew]; done) | (simp [World.drew]; omega)) (fun k hk => by cases hk; first | (simp; done) | (simp; omega))); have zc : w1.heap.size < wa.heap.size := (by have q := hgrow.size; simp [World.drew] at q; omega); have d0 := (HB.out.cell (p := ⟨w.heap.size, 0, none⟩) z1).trans b0; have d1 := (HB.out.cell (p := ⟨w.heap.size, 1, none⟩) z1).trans b1; have zw : w.heap.size < wa.heap.size := (by omega); clear hgrow hat) | (refine step_append_src rfl _ _ 25 rfl w1.heap.size 3 i0 (.int .i64 0) 1 8 Try.underlying25 hi0 hz0 hz1 hz2 rfl (by decide) (.slice (some ⟨w1.heap.size, 0, none⟩) 0 0) 0 [] rfl R2.out _ xs.length xs rfl (ints_recs (hi.below (bdrew (balloc (balloc (bref w1) (.cells #[] 3)) (.cells #[.int .i64 0, .slice none 0 0] 44))))) hn (by omega) (by decide) (by first | (simp [World.drew]; done) | (simp [World.drew]; omega)) ?_; intro v' wa hown hgrow hat; rw [Nat.zero_add, List.nil_append] at hown; obtain ⟨ac, cc, rfl⟩ := own_form hown; have HB := Lib.hid ((bdrew (balloc (balloc (bref w1) (.cells #[] 3)) (.cells #[.int .i64 0, .slice none 0 0] 44))).grown hgrow (by first | (simp [World.drew]; done) | (simp [World.drew]; omega)) (fun k hk => by cases hk; first | (simp; done) | (simp; omega))); have zc : w1.heap.size < wa.heap.size := (by have q := hgrow.size; simp [World.drew] at q; omega); have E := F2.out.grown hgrow (by first | (simp [Value.ownBlock]; done) | (simp [Value.ownBlock]; omega)); have e0 := E.c0; have e1 := E.c1; have ef0 := E.f0; have ef1 := E.f1; have xa := E.lt; have XN : (Value.slice ac xs.length cc).ownBlock ≠ some (w1.heap.size + 1) := not_app (v := .slice (some ⟨w1.heap.size, 0, none⟩) 0 0) (by first | (simp [Value.ownBlock]; done) | (simp [Value.ownBlock]; omega)) (Nat.ne_of_gt F2.out.lt) hat; have d0 := (HB.out.cell (p := ⟨w.heap.size, 0, none⟩) z1).trans b0; have d1 := (HB.out.cell (p := ⟨w.heap.size, 1, none⟩) z1).trans b1; have zw : w.heap.size < wa.heap.size := (by omega); clear hgrow hat) | (refine step_append_src rfl _ _ 25 rfl w1.heap.size 3 i0 (.int .i64 0) 1 8 Try.underlying25 hi0 hz0 hz1 hz2 rfl (by decide) (.slice (some ⟨w1.heap.size + 1, 0, none⟩) 0 0) 0 [] rfl R3.out _ xs.length xs rfl (ints_recs (hi.below (bdrew (balloc (balloc (bref w1) (.cells #[.int .i64 0, .slice none 0 0] 44)) (.cells #[] 3))))) hn (by omega) (by decide) (by first | (simp [World.drew]; done) | (simp [World.drew]; omega)) ?_; intro v' wa hown hgrow hat; rw [Nat.zero_add, List.nil_append] at hown; obtain ⟨ac, cc, rfl⟩ := own_form hown; have HB := Lib.hid ((bdrew (balloc (balloc (bref w1) (.cells #[.int .i64 0, .slice none 0 0] 44)) (.cells #[] 3))).grown hgrow (by first | (simp [World.drew]; done) | (simp [World.drew]; omega)) (fun k hk => by cases hk; first | (simp; done) | (simp; omega))); have zc : w1.heap.size < wa.heap.size := (by have q := hgrow.size; simp [World.drew] at q; omega); have E := F3.out.grown hgrow (by first | (simp [Value.ownBlock]; done) | (simp [Value.ownBlock]; omega)); have e0 := E.c0; have e1 := E.c1; have ef0 := E.f0; have ef1 := E.f1; have xa := E.lt; have XN : (Value.slice ac xs.length cc).ownBlock ≠ some (w1.heap.size) := not_app (v := .slice (some ⟨w1.heap.size + 1, 0, none⟩) 0 0) (by first | (simp [Value.ownBlock]; done) | (simp [Value.ownBlock]; omega)) (Nat.ne_of_gt F3.out.lt) hat; have d0 := (HB.out.cell (p := ⟨w.heap.size, 0, none⟩) z1).trans b0; have d1 := (HB.out.cell (p := ⟨w.heap.size, 1, none⟩) z1).trans b1; have zw : w.heap.size < wa.heap.size := (by omega); clear hgrow hat))
        all_goals
          go_wp2_with fail
          go_meet
          case rel =>
            first
            | exact ⟨_, _, rfl, more_new hown (Nat.le_of_lt zc), balloc HB.out _⟩
            | exact ⟨_, _, rfl, more_old hown (by first | exact Nat.le_refl _ | exact Nat.le_succ _) xa e0 e1 XN, bset (bset HB.out (by first | exact Nat.le_refl _ | exact Nat.le_succ _) _) (by first | exact Nat.le_refl _ | exact Nat.le_succ _) _⟩
      case rest =>
        obtain ⟨X, u, rfl, hS, hb2⟩ := hcut
        obtain ⟨g, cap, rfl, hg⟩ := hS.row (by omega)
        have HS := Lib.hid hS
        have HD2 := Lib.hid hb2
        clear hS hb2 hi b0 b1
        go_wp2
        go_loopw [5] (fun i wr => ∃ j : Nat, i = .int .i64 j ∧ j ≤ xs.length ∧ MoreS w1.heap.size nm X (.slice (some ⟨g, 0, none⟩) xs.length cap) (bumpL xs 0 k j) wr ∧ Hid (Below w1.heap.size w1 wr)) (fun i _ => xs.length - (intOf i).toNat)
        case atStart => exact ⟨0, rfl, by omega, by rw [bumpL_zero, shiftL_zero]; exact HS.out, HD2.out⟩
        case round =>
          obtain ⟨j, rfl, hj, hS, HB3⟩ := hrel
          have c0 := hS.c0
          have c1 := hS.c1
          by_cases hlt : j < xs.length
          · have hln := bumpL_len xs 0 (k : Int) hj
            have q0 := hS.cellAt hln.symm (k := j) (by omega)
            rw [bumpL_nth xs 0 _ hlt, Int.add_zero] at q0
            have f0 := hS.frozen hln.symm j
            have hx := HX.out j hlt
            have HT := Lib.hid ((hS.below (bdrew (bref wr))).store hln.symm (k := j) (nth xs j + (k : Int)))
            clear hS hln
            go_wp2_with fail
            go_region
            go_wp2
            go_roundw
            case rel =>
              refine ⟨j + 1, by go_num, by omega, ?_, bset (bdrew HB3.out) hg _⟩
              have h := HT.out
              rw [bumpL_set xs 0 _ hlt] at h
              exact h
            case measure => simp [intOf]; omega
          · obtain rfl : j = xs.length := by omega
            rw [bumpL_all] at hS
            have HT := Lib.hid hS
            have hi := Lib.hid (hS.ints (by rw [shiftL_len]; omega))
            clear hS
            have hi := hi.out
            have HW2 := Lib.hid (bnext (bnext D1.out HD.out) HB3.out)
            have HW3 := Lib.hid (bnext HD.out HB3.out)
            cases h2 : lotGood nm (shiftL xs k) with
            | true =>
              have HE := Lib.hid (HL.out.trans (leastFrom_yes hk h2))
              go_wp2_with (first | (go_at_call 73; refine (specIsLotGood nm (.slice (some ⟨g, 0, none⟩) xs.length cap) (shiftL xs k) _ hi).mono ?_; rw [h2]; rintro e w2 ⟨rfl, hb2⟩))
              go_ret
              exact ⟨by rw [HE.out]; exact ret_int rfl, bnext HW2.out hb2⟩
            | false =>
              cases h1 : lotOk nm (shiftL xs k) with
              | false =>
                have HE := Lib.hid (HL.out.trans (leastFrom_no h1))
                go_wp2_with (first | (go_at_call 73; refine (specIsLotGood nm (.slice (some ⟨g, 0, none⟩) xs.length cap) (shiftL xs k) _ hi).mono ?_; rw [h2]; rintro e w2 ⟨rfl, hb2⟩; have hi := hi.below hb2; have c0 := (hb2.cell HT.out.xl).trans c0; have c1 := (hb2.cell HT.out.xl).trans c1) | (go_at_call 67; refine (specLotOk_any nm (.slice (some ⟨g, 0, none⟩) xs.length cap) (shiftL xs k) _ hi).mono ?_; rw [h1]; rintro e w3 ⟨rfl, hb3⟩))
                go_ret
                exact ⟨by rw [HE.out]; exact ret_int rfl, bnext (bnext HW2.out hb2) hb3⟩
              | true =>
                have hk2 := lot_small h0 h1
                have HE := Lib.hid (HL.out.trans (leastFrom_next hk h1 h2))
                go_wp2_with (first | (go_at_call 73; refine (specIsLotGood nm (.slice (some ⟨g, 0, none⟩) xs.length cap) (shiftL xs k) _ hi).mono ?_; rw [h2]; rintro e w2 ⟨rfl, hb2⟩; have hi := hi.below hb2; have c0 := (hb2.cell HT.out.xl).trans c0; have c1 := (hb2.cell HT.out.xl).trans c1) | (go_at_call 67; refine (specLotOk_any nm (.slice (some ⟨g, 0, none⟩) xs.length cap) (shiftL xs k) _ hi).mono ?_; rw [h1]; rintro e w3 ⟨rfl, hb3⟩))
                go_roundw
                case rel => exact ⟨k + 1, by go_num, by omega, bnext (bnext HW3.out hb2) hb3, HE⟩
                case measure => simp [intOf]; omega
end Go.Proofs.Ytfnhcbbfhoiemaa
