/- The walks of LeastMore, in the program and in the reference. -/
import Derived.Test.YtkdpfjaebhgnoaaMoreFn
import Derived.Deep.RegionWith
import Derived.Deep.DeepCutAuto
namespace Go.Proofs.Ytkdpfjaebhgnoaa
open Go.ChangeShapes Go.WideShapes Go.ChangeAt Go.RowKit

set_option maxHeartbeats 4000000 in
theorem implLeastMore (nm : Int) (v : Value) (xs : List Int) (w : World) (h : Ints w v xs) (hn : NilOk v) (h20 : xs.length ≤ 1048576) : Calls Try.prog 53 #[.agg #[.int .i64 nm, v]] w fun e w' => e = .returned (.int .i64 (leastMore nm xs)) ∧ Below w.heap.size w w' := by
  obtain ⟨adv, capv, rfl⟩ : ∃ ad cap, v = .slice ad xs.length cap := by obtain ⟨_, ad, cap, hh, _⟩ := h; exact ⟨ad, cap, hh⟩
  go_enter Try.func53, Try.ntmps53
  go_upto_region 1 with fail
  have b0 : (w.alloc (.cells #[.int .i64 nm, .slice adv xs.length capv] 47)).cell? ⟨w.heap.size, 0, none⟩ = some (.int .i64 nm) := by go_simp
  have b1 : (w.alloc (.cells #[.int .i64 nm, .slice adv xs.length capv] 47)).cell? ⟨w.heap.size, 1, none⟩ = some (.slice adv xs.length capv) := by go_simp
  have D1 := Lib.hid (balloc (bref w) (.cells #[.int .i64 nm, .slice adv xs.length capv] 47))
  have sz : (w.alloc (.cells #[.int .i64 nm, .slice adv xs.length capv] 47)).heap.size = w.heap.size + 1 := by simp
  generalize w.alloc (.cells #[.int .i64 nm, .slice adv xs.length capv] 47) = w1 at *
  have z1 : w.heap.size < w1.heap.size := by omega
  clear sz
  go_cut [3] (fun p wx => ∃ X u, p = .pointer (some ⟨X, 0, none⟩) ∧ MoreS w.heap.size nm X u xs wx ∧ Below w.heap.size w wx)
  case first =>
    go_region_with (go_at_call 80; first | (refine (copyInts_any _ xs w1.drew (h.below (bdrew D1.out)) hn h20).mono ?_; rintro e wc ⟨ac, cc, rfl, hown, hbel⟩; have zc : w1.heap.size ≤ wc.heap.size := hbel.size; have zw : w.heap.size < wc.heap.size := (by omega); have d0 : wc.cell? ⟨w.heap.size, 0, none⟩ = some (.int .i64 nm) := (hbel.cell (p := ⟨w.heap.size, 0, none⟩) z1).trans b0) | (refine (copyInts_any _ xs ((w1.alloc (.cells #[.int .i64 0, .slice none 0 0] 47)).drew) (h.below (bdrew (balloc D1.out _))) hn h20).mono ?_; rintro e wc ⟨ac, cc, rfl, hown, hbel⟩; have zc : w1.heap.size < wc.heap.size := (by have q := hbel.size; simp [World.drew] at q; omega); have zw : w.heap.size < wc.heap.size := (by omega); have d0 : wc.cell? ⟨w.heap.size, 0, none⟩ = some (.int .i64 nm) := (hbel.cell (p := ⟨w.heap.size, 0, none⟩) (by simp [World.drew]; omega)).trans (by go_simp); have e0 : wc.cell? ⟨w1.heap.size, 0, none⟩ = some (.int .i64 0) := (hbel.cell (p := ⟨w1.heap.size, 0, none⟩) (by first | (simp [World.drew]; done) | (simp [World.drew]; omega))).trans (by go_simp); have ef0 : wc.frozen? ⟨w1.heap.size, 0, none⟩ = false := (hbel.frozen (p := ⟨w1.heap.size, 0, none⟩) (by first | (simp [World.drew]; done) | (simp [World.drew]; omega))).trans (by go_simp); have e1 : wc.cell? ⟨w1.heap.size, 1, none⟩ = some (.slice none 0 0) := (hbel.cell (p := ⟨w1.heap.size, 1, none⟩) (by first | (simp [World.drew]; done) | (simp [World.drew]; omega))).trans (by go_simp); have ef1 : wc.frozen? ⟨w1.heap.size, 1, none⟩ = false := (hbel.frozen (p := ⟨w1.heap.size, 1, none⟩) (by first | (simp [World.drew]; done) | (simp [World.drew]; omega))).trans (by go_simp)))
    all_goals
      go_wp2_with fail
      go_meet
      case rel =>
        first
        | exact ⟨_, _, rfl, more_new (own_base hown D1.out.size) (Nat.le_of_lt zw), balloc (bnext (bdrew D1.out) hbel) _⟩
        | exact ⟨_, _, rfl, more_old (own_base hown (bdrew (balloc D1.out _)).size) (Nat.le_of_lt z1) zc e0 e1 (not_app2 hown (by first | (simp [World.drew]; done) | (simp [World.drew]; omega))), bset (bset (bnext (bdrew (balloc D1.out _)) hbel) (Nat.le_of_lt z1) _) (Nat.le_of_lt z1) _⟩
  case rest =>
    obtain ⟨X, u, rfl, hS, hb⟩ := hcut
    go_wp2
    go_loopw [4] (fun n wr => ∃ k : Nat, n = .int .i64 k ∧ k ≤ 20001 ∧ MoreS w.heap.size nm X u (shiftL xs k) wr ∧ Hid (Below w.heap.size w wr) ∧ Hid (leastMore nm xs = leastFrom nm xs (20002 - k) k) ∧ Hid (0 < k → lotOk nm xs = true)) (fun n _ => 20002 - (intOf n).toNat)
    case atStart => exact ⟨0, rfl, by omega, by simpa [shiftL_zero] using hS, hb, rfl, fun q => absurd q (by omega)⟩
    case round =>
      obtain ⟨k, rfl, hk, hS, HB, HL, H0⟩ := hrel
      have hl : (shiftL xs k).length = xs.length := shiftL_len _ _
      have hi := hS.ints (by omega)
      have c0 := hS.c0
      have c1 := hS.c1
      cases h1 : lotOk nm (shiftL xs k) with
      | false =>
        have HE := Lib.hid (HL.out.trans (leastFrom_no h1))
        clear hl
        go_wp2_with (first | (go_at_call 75; refine (implLotOk_any nm u (shiftL xs k) _ hi).mono ?_; rw [h1]; rintro e w1 ⟨rfl, hb1⟩))
        go_ret
        exact ⟨by rw [HE.out]; exact ret_int rfl, bnext HB.out hb1⟩
      | true =>
        have h0 : lotOk nm xs = true := by
          rcases Nat.eq_zero_or_pos k with q | q
          · subst q; simpa [shiftL_zero] using h1
          · exact H0.out q
        have hk2 := lot_small h0 h1
        obtain ⟨_, _, hl1, hl2, hel⟩ := lotOk_in h0
        obtain ⟨g, cap, rfl, hg⟩ := hS.row (by omega)
        rw [hl] at hS c1 hi ⊢
        have HS := Lib.hid hS
        have HX := Lib.hid hel
        cases h2 : lotGood nm (shiftL xs k) with
        | true =>
          have HE := Lib.hid (HL.out.trans (leastFrom_yes (by omega) h2))
          clear hl hS
          go_wp2_with (first | (go_at_call 75; refine (implLotOk_any nm _ (shiftL xs k) _ hi).mono ?_; rw [h1]; rintro e w1 ⟨rfl, hb1⟩; have hi := hi.below hb1; have c0 := (hb1.cell HS.out.xl).trans c0; have c1 := (hb1.cell HS.out.xl).trans c1) | (go_at_call 51; refine (implIsLotGood nm _ (shiftL xs k) _ hi).mono ?_; rw [h2]; rintro e w2 ⟨rfl, hb2⟩))
          go_ret
          exact ⟨by rw [HE.out]; exact ret_int rfl, bnext (bnext HB.out hb1) hb2⟩
        | false =>
          have HE := Lib.hid (HL.out.trans (leastFrom_next (by omega) h1 h2))
          clear hl hS
          go_wp2_with (first | (go_at_call 75; refine (implLotOk_any nm _ (shiftL xs k) _ hi).mono ?_; rw [h1]; rintro e w1 ⟨rfl, hb1⟩; have hi := hi.below hb1; have c0 := (hb1.cell HS.out.xl).trans c0; have c1 := (hb1.cell HS.out.xl).trans c1) | (go_at_call 51; refine (implIsLotGood nm _ (shiftL xs k) _ hi).mono ?_; rw [h2]; rintro e w2 ⟨rfl, hb2⟩; have hi := hi.below hb2; have c0 := (hb2.cell (Nat.lt_of_lt_of_le HS.out.xl hb1.size)).trans c0; have c1 := (hb2.cell (Nat.lt_of_lt_of_le HS.out.xl hb1.size)).trans c1))
          have HS2 := Lib.hid ((HS.out.below hb1).below hb2)
          have HB2 := Lib.hid (bnext (bnext HB.out hb1) hb2)
          clear hb1 hb2 hi c0 c1
          go_loopw [5, 22] (fun _ i wr => ∃ j : Nat, i = .int .i64 j ∧ j ≤ xs.length ∧ MoreS w.heap.size nm X (.slice (some ⟨g, 0, none⟩) xs.length cap) (bumpL xs k ((k : Int) + 1) j) wr ∧ Hid (Below w.heap.size w wr)) (fun _ i _ => xs.length - (intOf i).toNat)
          case atStart => exact ⟨0, rfl, by omega, by rw [bumpL_zero]; exact HS2.out, HB2.out⟩
          case round =>
            obtain ⟨j, rfl, hj, hS, HB3⟩ := hrel
            by_cases hlt : j < xs.length
            · have hln := bumpL_len xs k ((k : Int) + 1) hj
              have q0 := hS.cellAt hln.symm (k := j) (by omega)
              rw [bumpL_nth xs k _ hlt] at q0
              have f0 := hS.frozen hln.symm j
              have c1 := hS.c1
              have hx := HX.out j hlt
              have HT := Lib.hid (hS.store hln.symm (k := j) (nth xs j + ((k : Int) + 1)))
              clear hS hln
              go_wp2
              go_roundw
              case rel =>
                refine ⟨j + 1, by go_num, by omega, ?_, bset HB3.out hg _⟩
                have h := HT.out
                rw [bumpL_set xs k _ hlt, ← Int.add_assoc] at h
                exact h
              case measure => simp [intOf]; omega
            · obtain rfl : j = xs.length := by omega
              rw [bumpL_all] at hS
              have HT := Lib.hid hS
              clear hS
              go_wp2
              go_roundw
              case rel => exact ⟨k + 1, by go_num, by omega, HT.out, HB3, HE, fun _ => h0⟩
              case measure => simp [intOf]; omega
end Go.Proofs.Ytkdpfjaebhgnoaa
