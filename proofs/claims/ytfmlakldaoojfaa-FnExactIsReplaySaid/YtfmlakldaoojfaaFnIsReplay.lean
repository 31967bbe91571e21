/- The law that compares IsReplay with the reference, walked. -/
import Derived.Test.YtfmlakldaoojfaaGL
import Derived.Test.YtfmlakldaoojfaaGI
import Derived.Test.YtfmlakldaoojfaaGB
import Derived.Deep.RegionHeld3
namespace Go.Proofs.Ytfmlakldaoojfaa
open Go.ChangeShapes Go.WideShapes Go.ChangeAt Go.RowKit
set_option maxRecDepth 100000 in
set_option maxHeartbeats 4000000 in
theorem fnExactIsReplay_any (vc0 vm0 vo0 vt0 : Value) (hd0 : HD) (v1 : Value) (n1 : Nat) (x1 : List Int) (v2 : Value) (x2 : List Int) (w : World) (h0 : HouseR w vc0 vm0 vo0 vt0 hd0) (h1 : Recs 5 w v1 n1 x1) (h2 : Ints w v2 x2) :
    Calls Try.prog 5 #[.agg #[vc0, vm0, vo0, vt0, .int .i64 (hd0).sent, .int .i64 (hd0).day], v1, v2] w fun e w' => e = .returned (.bool true) ∧ Below w.heap.size w w' := by
  obtain ⟨adc0, capc0, rfl⟩ : ∃ ad cap, vc0 = .slice ad hd0.n cap := by obtain ⟨_, _, ad, cap, hh, _⟩ := h0.c; exact ⟨ad, cap, hh⟩
  obtain ⟨adm0, capm0, rfl⟩ : ∃ ad cap, vm0 = .slice ad hd0.ms.length cap := by obtain ⟨_, ad, cap, hh, _⟩ := h0.m; exact ⟨ad, cap, hh⟩
  obtain ⟨ado0, capo0, rfl⟩ : ∃ ad cap, vo0 = .slice ad hd0.os.length cap := by obtain ⟨_, ad, cap, hh, _⟩ := h0.o; exact ⟨ad, cap, hh⟩
  obtain ⟨adt0, capt0, rfl⟩ : ∃ ad cap, vt0 = .slice ad hd0.ts.length cap := by obtain ⟨_, ad, cap, hh, _⟩ := h0.t; exact ⟨ad, cap, hh⟩
  have l1 := h1.len
  obtain ⟨ad2, cap2, rfl⟩ : ∃ ad cap, v2 = .slice ad x2.length cap := by obtain ⟨_, ad, cap, hh, _⟩ := h2; exact ⟨ad, cap, hh⟩
  have l2 := h2.len
  by_cases q2 : (1048576 : Int) < ((x2).length : Int)
  · skip
    go_enter Try.func5, Try.ntmps5
    go_wp2
    go_ret
    exact ⟨rfl, bnext (bref w) (balloc (bref _) _)⟩
  by_cases q0 : (1048576 : Int) < ((hd0).size : Int)
  · skip
    go_enter Try.func5, Try.ntmps5
    go_wp2_with fail
    refine (szHouse_any _ _ _ _ (hd0) (1048576) _ (h0.below (balloc (bref _) _)) (by omega) (by omega)).mono ?_
    rintro e w1_ ⟨rfl, hb1⟩
    have T1 := bnext (balloc (bref _) _) hb1
    have Z1 : w.heap.size + 1 ≤ w1_.heap.size := by have h := hb1.size; simp at h; omega
    have yp0 : w.heap.size < w1_.heap.size := by omega
    have kp0_0 : w1_.cell? ⟨w.heap.size, 0, none⟩ = some ((.slice adc0 hd0.n capc0)) := (hb1.cell (p := ⟨w.heap.size, 0, none⟩) (by simp)).trans (by simp)
    have kp0_1 : w1_.cell? ⟨w.heap.size, 1, none⟩ = some ((.slice adm0 hd0.ms.length capm0)) := (hb1.cell (p := ⟨w.heap.size, 1, none⟩) (by simp)).trans (by simp)
    have kp0_2 : w1_.cell? ⟨w.heap.size, 2, none⟩ = some ((.slice ado0 hd0.os.length capo0)) := (hb1.cell (p := ⟨w.heap.size, 2, none⟩) (by simp)).trans (by simp)
    have kp0_3 : w1_.cell? ⟨w.heap.size, 3, none⟩ = some ((.slice adt0 hd0.ts.length capt0)) := (hb1.cell (p := ⟨w.heap.size, 3, none⟩) (by simp)).trans (by simp)
    have kp0_4 : w1_.cell? ⟨w.heap.size, 4, none⟩ = some (.int .i64 (hd0).sent) := (hb1.cell (p := ⟨w.heap.size, 4, none⟩) (by simp)).trans (by simp)
    have kp0_5 : w1_.cell? ⟨w.heap.size, 5, none⟩ = some (.int .i64 (hd0).day) := (hb1.cell (p := ⟨w.heap.size, 5, none⟩) (by simp)).trans (by simp)
    have D1 := bnext (bref w) T1
    clear T1 hb1
    rw [szRes_lt (by omega)]
    go_wp2
    go_ret
    exact ⟨rfl, D1⟩
  by_cases q1 : ((1048576 : Int) - ((hd0).size : Int)) < (n1 : Int)
  · skip
    go_enter Try.func5, Try.ntmps5
    go_wp2_with fail
    refine (szHouse_any _ _ _ _ (hd0) (1048576) _ (h0.below (balloc (bref _) _)) (by omega) (by omega)).mono ?_
    rintro e w1_ ⟨rfl, hb1⟩
    have T1 := bnext (balloc (bref _) _) hb1
    have Z1 : w.heap.size + 1 ≤ w1_.heap.size := by have h := hb1.size; simp at h; omega
    have yp0 : w.heap.size < w1_.heap.size := by omega
    have kp0_0 : w1_.cell? ⟨w.heap.size, 0, none⟩ = some ((.slice adc0 hd0.n capc0)) := (hb1.cell (p := ⟨w.heap.size, 0, none⟩) (by simp)).trans (by simp)
    have kp0_1 : w1_.cell? ⟨w.heap.size, 1, none⟩ = some ((.slice adm0 hd0.ms.length capm0)) := (hb1.cell (p := ⟨w.heap.size, 1, none⟩) (by simp)).trans (by simp)
    have kp0_2 : w1_.cell? ⟨w.heap.size, 2, none⟩ = some ((.slice ado0 hd0.os.length capo0)) := (hb1.cell (p := ⟨w.heap.size, 2, none⟩) (by simp)).trans (by simp)
    have kp0_3 : w1_.cell? ⟨w.heap.size, 3, none⟩ = some ((.slice adt0 hd0.ts.length capt0)) := (hb1.cell (p := ⟨w.heap.size, 3, none⟩) (by simp)).trans (by simp)
    have kp0_4 : w1_.cell? ⟨w.heap.size, 4, none⟩ = some (.int .i64 (hd0).sent) := (hb1.cell (p := ⟨w.heap.size, 4, none⟩) (by simp)).trans (by simp)
    have kp0_5 : w1_.cell? ⟨w.heap.size, 5, none⟩ = some (.int .i64 (hd0).day) := (hb1.cell (p := ⟨w.heap.size, 5, none⟩) (by simp)).trans (by simp)
    have D1 := bnext (bref w) T1
    clear T1 hb1
    rw [szRes_ge (by omega)]
    go_wp2_with fail
    refine (szActS_any _ n1 x1 (1048576 - ((hd0).size : Int)) _ (h1.below D1) (by omega) (by omega)).mono ?_
    rintro e w' ⟨rfl, rfl⟩
    rw [if_pos (by omega)]
    go_wp2
    go_ret
    exact ⟨rfl, D1⟩
  have hB0 : HouseB hd0 1048576 := ⟨by unfold HD.size at q0; omega, by unfold HD.size at q0; omega, by unfold HD.size at q0; omega, by unfold HD.size at q0; omega⟩
  have hK0 := bulk_le hB0
  go_enter Try.func5, Try.ntmps5
  go_wp2_with fail
  refine (szHouse_any _ _ _ _ (hd0) (1048576) _ (h0.below (balloc (bref _) _)) (by omega) (by omega)).mono ?_
  rintro e w1_ ⟨rfl, hb1⟩
  have T1 := bnext (balloc (bref _) _) hb1
  have Z1 : w.heap.size + 1 ≤ w1_.heap.size := by have h := hb1.size; simp at h; omega
  have yp0 : w.heap.size < w1_.heap.size := by omega
  have kp0_0 : w1_.cell? ⟨w.heap.size, 0, none⟩ = some ((.slice adc0 hd0.n capc0)) := (hb1.cell (p := ⟨w.heap.size, 0, none⟩) (by simp)).trans (by simp)
  have kp0_1 : w1_.cell? ⟨w.heap.size, 1, none⟩ = some ((.slice adm0 hd0.ms.length capm0)) := (hb1.cell (p := ⟨w.heap.size, 1, none⟩) (by simp)).trans (by simp)
  have kp0_2 : w1_.cell? ⟨w.heap.size, 2, none⟩ = some ((.slice ado0 hd0.os.length capo0)) := (hb1.cell (p := ⟨w.heap.size, 2, none⟩) (by simp)).trans (by simp)
  have kp0_3 : w1_.cell? ⟨w.heap.size, 3, none⟩ = some ((.slice adt0 hd0.ts.length capt0)) := (hb1.cell (p := ⟨w.heap.size, 3, none⟩) (by simp)).trans (by simp)
  have kp0_4 : w1_.cell? ⟨w.heap.size, 4, none⟩ = some (.int .i64 (hd0).sent) := (hb1.cell (p := ⟨w.heap.size, 4, none⟩) (by simp)).trans (by simp)
  have kp0_5 : w1_.cell? ⟨w.heap.size, 5, none⟩ = some (.int .i64 (hd0).day) := (hb1.cell (p := ⟨w.heap.size, 5, none⟩) (by simp)).trans (by simp)
  have D1 := bnext (bref w) T1
  clear T1 hb1
  rw [szRes_ge (by omega)]
  go_wp2_with fail
  refine (szActS_any _ n1 x1 (1048576 - ((hd0).size : Int)) _ (h1.below D1) (by omega) (by omega)).mono ?_
  rintro e w' ⟨rfl, rfl⟩
  rw [if_neg (by omega)]
  go_wp2_with fail
  refine (toHouse_any _ _ _ _ (hd0) _ (h0.below D1) hB0).mono ?_
  rintro e w2_ ⟨gc_2, gm_2, go_2, gt_2, rfl, hO2, hb2⟩
  have T2 := hb2
  have Z2 := hb2.size
  replace yp0 : w.heap.size < w2_.heap.size := by omega
  replace kp0_0 := (T2.cell (p := ⟨w.heap.size, 0, none⟩) (by simp only []; omega)).trans kp0_0
  replace kp0_1 := (T2.cell (p := ⟨w.heap.size, 1, none⟩) (by simp only []; omega)).trans kp0_1
  replace kp0_2 := (T2.cell (p := ⟨w.heap.size, 2, none⟩) (by simp only []; omega)).trans kp0_2
  replace kp0_3 := (T2.cell (p := ⟨w.heap.size, 3, none⟩) (by simp only []; omega)).trans kp0_3
  replace kp0_4 := (T2.cell (p := ⟨w.heap.size, 4, none⟩) (by simp only []; omega)).trans kp0_4
  replace kp0_5 := (T2.cell (p := ⟨w.heap.size, 5, none⟩) (by simp only []; omega)).trans kp0_5
  have D2 := bnext D1 T2
  have O_s0 := hO2
  clear hO2
  clear T2 hb2
  go_wp2_with fail
  refine (toActS_any _ n1 x1 _ (h1.below D2) (by omega)).mono ?_
  rintro e w3_ ⟨rfl, hO3, hb3⟩
  have T3 := hb3
  have Z3 := hb3.size
  replace yp0 : w.heap.size < w3_.heap.size := by omega
  replace kp0_0 := (T3.cell (p := ⟨w.heap.size, 0, none⟩) (by simp only []; omega)).trans kp0_0
  replace kp0_1 := (T3.cell (p := ⟨w.heap.size, 1, none⟩) (by simp only []; omega)).trans kp0_1
  replace kp0_2 := (T3.cell (p := ⟨w.heap.size, 2, none⟩) (by simp only []; omega)).trans kp0_2
  replace kp0_3 := (T3.cell (p := ⟨w.heap.size, 3, none⟩) (by simp only []; omega)).trans kp0_3
  replace kp0_4 := (T3.cell (p := ⟨w.heap.size, 4, none⟩) (by simp only []; omega)).trans kp0_4
  replace kp0_5 := (T3.cell (p := ⟨w.heap.size, 5, none⟩) (by simp only []; omega)).trans kp0_5
  replace O_s0 := O_s0.below T3
  have D3 := bnext D2 T3
  have O_s1 := RowO.of hO3
  clear hO3
  clear T3 hb3
  go_wp2_with fail
  refine (toIntS_any _ (x2) _ (h2.below D3) (by omega)).mono ?_
  rintro e w4_ ⟨rfl, hO4, hb4⟩
  have T4 := hb4
  have Z4 := hb4.size
  replace yp0 : w.heap.size < w4_.heap.size := by omega
  replace kp0_0 := (T4.cell (p := ⟨w.heap.size, 0, none⟩) (by simp only []; omega)).trans kp0_0
  replace kp0_1 := (T4.cell (p := ⟨w.heap.size, 1, none⟩) (by simp only []; omega)).trans kp0_1
  replace kp0_2 := (T4.cell (p := ⟨w.heap.size, 2, none⟩) (by simp only []; omega)).trans kp0_2
  replace kp0_3 := (T4.cell (p := ⟨w.heap.size, 3, none⟩) (by simp only []; omega)).trans kp0_3
  replace kp0_4 := (T4.cell (p := ⟨w.heap.size, 4, none⟩) (by simp only []; omega)).trans kp0_4
  replace kp0_5 := (T4.cell (p := ⟨w.heap.size, 5, none⟩) (by simp only []; omega)).trans kp0_5
  replace O_s0 := O_s0.below T4
  replace O_s1 := O_s1.below T4
  have D4 := bnext D3 T4
  have O_s2 := RowO.of hO4
  clear hO4
  clear T4 hb4
  go_wp2_with fail
  refine (specIsReplayV _ _ _ _ hd0 _ n1 x1 _ x2 _ (O_s0.read hB0) (O_s1.recs (by omega)) (O_s2.ints (by omega)) O_s0.nils hB0).mono ?_
  rintro e w5_ ⟨rfl, hb5⟩
  have T5 := hb5
  have Z5 := hb5.size
  replace yp0 : w.heap.size < w5_.heap.size := by omega
  replace kp0_0 := (T5.cell (p := ⟨w.heap.size, 0, none⟩) (by simp only []; omega)).trans kp0_0
  replace kp0_1 := (T5.cell (p := ⟨w.heap.size, 1, none⟩) (by simp only []; omega)).trans kp0_1
  replace kp0_2 := (T5.cell (p := ⟨w.heap.size, 2, none⟩) (by simp only []; omega)).trans kp0_2
  replace kp0_3 := (T5.cell (p := ⟨w.heap.size, 3, none⟩) (by simp only []; omega)).trans kp0_3
  replace kp0_4 := (T5.cell (p := ⟨w.heap.size, 4, none⟩) (by simp only []; omega)).trans kp0_4
  replace kp0_5 := (T5.cell (p := ⟨w.heap.size, 5, none⟩) (by simp only []; omega)).trans kp0_5
  replace O_s0 := O_s0.below T5
  replace O_s1 := O_s1.below T5
  replace O_s2 := O_s2.below T5
  have D5 := bnext D4 T5
  clear T5 hb5
  go_wp2_with fail
  clear O_s0
  clear O_s1
  clear O_s2
  refine (toHouse_any _ _ _ _ (hd0) _ (h0.below D5) hB0).mono ?_
  rintro e w6_ ⟨gc_6, gm_6, go_6, gt_6, rfl, hO6, hb6⟩
  have T6 := hb6
  have Z6 := hb6.size
  replace yp0 : w.heap.size < w6_.heap.size := by omega
  replace kp0_0 := (T6.cell (p := ⟨w.heap.size, 0, none⟩) (by simp only []; omega)).trans kp0_0
  replace kp0_1 := (T6.cell (p := ⟨w.heap.size, 1, none⟩) (by simp only []; omega)).trans kp0_1
  replace kp0_2 := (T6.cell (p := ⟨w.heap.size, 2, none⟩) (by simp only []; omega)).trans kp0_2
  replace kp0_3 := (T6.cell (p := ⟨w.heap.size, 3, none⟩) (by simp only []; omega)).trans kp0_3
  replace kp0_4 := (T6.cell (p := ⟨w.heap.size, 4, none⟩) (by simp only []; omega)).trans kp0_4
  replace kp0_5 := (T6.cell (p := ⟨w.heap.size, 5, none⟩) (by simp only []; omega)).trans kp0_5
  have D6 := bnext D5 T6
  have O_x0 := hO6
  clear hO6
  clear T6 hb6
  go_wp2_with fail
  refine (toActS_any _ n1 x1 _ ((h1.below D6).below (balloc (bref _) _)) (by omega)).mono ?_
  rintro e w7_ ⟨rfl, hO7, hb7⟩
  simp only [World.size_alloc] at hO7
  have T7 := bnext (balloc (bref _) _) hb7
  have Z7 : w6_.heap.size + 1 ≤ w7_.heap.size := by have h := hb7.size; simp at h; omega
  replace yp0 : w.heap.size < w7_.heap.size := by omega
  replace kp0_0 := (T7.cell (p := ⟨w.heap.size, 0, none⟩) (by simp only []; omega)).trans kp0_0
  replace kp0_1 := (T7.cell (p := ⟨w.heap.size, 1, none⟩) (by simp only []; omega)).trans kp0_1
  replace kp0_2 := (T7.cell (p := ⟨w.heap.size, 2, none⟩) (by simp only []; omega)).trans kp0_2
  replace kp0_3 := (T7.cell (p := ⟨w.heap.size, 3, none⟩) (by simp only []; omega)).trans kp0_3
  replace kp0_4 := (T7.cell (p := ⟨w.heap.size, 4, none⟩) (by simp only []; omega)).trans kp0_4
  replace kp0_5 := (T7.cell (p := ⟨w.heap.size, 5, none⟩) (by simp only []; omega)).trans kp0_5
  have yx0 : w6_.heap.size < w7_.heap.size := by omega
  have kx0_0 : w7_.cell? ⟨w6_.heap.size, 0, none⟩ = some ((.slice (some ⟨gc_6, 0, none⟩) hd0.n hd0.n)) := (hb7.cell (p := ⟨w6_.heap.size, 0, none⟩) (by simp)).trans (by simp)
  have kx0_1 : w7_.cell? ⟨w6_.heap.size, 1, none⟩ = some ((.slice (some ⟨gm_6, 0, none⟩) hd0.ms.length hd0.ms.length)) := (hb7.cell (p := ⟨w6_.heap.size, 1, none⟩) (by simp)).trans (by simp)
  have kx0_2 : w7_.cell? ⟨w6_.heap.size, 2, none⟩ = some ((.slice (some ⟨go_6, 0, none⟩) hd0.os.length hd0.os.length)) := (hb7.cell (p := ⟨w6_.heap.size, 2, none⟩) (by simp)).trans (by simp)
  have kx0_3 : w7_.cell? ⟨w6_.heap.size, 3, none⟩ = some ((.slice (some ⟨gt_6, 0, none⟩) hd0.ts.length hd0.ts.length)) := (hb7.cell (p := ⟨w6_.heap.size, 3, none⟩) (by simp)).trans (by simp)
  have kx0_4 : w7_.cell? ⟨w6_.heap.size, 4, none⟩ = some (.int .i64 (hd0).sent) := (hb7.cell (p := ⟨w6_.heap.size, 4, none⟩) (by simp)).trans (by simp)
  have kx0_5 : w7_.cell? ⟨w6_.heap.size, 5, none⟩ = some (.int .i64 (hd0).day) := (hb7.cell (p := ⟨w6_.heap.size, 5, none⟩) (by simp)).trans (by simp)
  replace O_x0 := O_x0.below T7
  have D7 := bnext D6 T7
  have O_x1 := (RowO.of hO7).wide (lo' := w6_.heap.size + 1) (by first | (simp; done) | (simp; omega)) (Nat.le_refl _)
  clear hO7
  clear T7 hb7
  go_wp2_with fail
  refine (toIntS_any _ (x2) _ (h2.below D7) (by omega)).mono ?_
  rintro e w8_ ⟨rfl, hO8, hb8⟩
  have T8 := hb8
  have Z8 := hb8.size
  replace yp0 : w.heap.size < w8_.heap.size := by omega
  replace kp0_0 := (T8.cell (p := ⟨w.heap.size, 0, none⟩) (by simp only []; omega)).trans kp0_0
  replace kp0_1 := (T8.cell (p := ⟨w.heap.size, 1, none⟩) (by simp only []; omega)).trans kp0_1
  replace kp0_2 := (T8.cell (p := ⟨w.heap.size, 2, none⟩) (by simp only []; omega)).trans kp0_2
  replace kp0_3 := (T8.cell (p := ⟨w.heap.size, 3, none⟩) (by simp only []; omega)).trans kp0_3
  replace kp0_4 := (T8.cell (p := ⟨w.heap.size, 4, none⟩) (by simp only []; omega)).trans kp0_4
  replace kp0_5 := (T8.cell (p := ⟨w.heap.size, 5, none⟩) (by simp only []; omega)).trans kp0_5
  replace yx0 : w6_.heap.size < w8_.heap.size := by omega
  replace kx0_0 := (T8.cell (p := ⟨w6_.heap.size, 0, none⟩) (by simp only []; omega)).trans kx0_0
  replace kx0_1 := (T8.cell (p := ⟨w6_.heap.size, 1, none⟩) (by simp only []; omega)).trans kx0_1
  replace kx0_2 := (T8.cell (p := ⟨w6_.heap.size, 2, none⟩) (by simp only []; omega)).trans kx0_2
  replace kx0_3 := (T8.cell (p := ⟨w6_.heap.size, 3, none⟩) (by simp only []; omega)).trans kx0_3
  replace kx0_4 := (T8.cell (p := ⟨w6_.heap.size, 4, none⟩) (by simp only []; omega)).trans kx0_4
  replace kx0_5 := (T8.cell (p := ⟨w6_.heap.size, 5, none⟩) (by simp only []; omega)).trans kx0_5
  replace O_x0 := O_x0.below T8
  replace O_x1 := O_x1.below T8
  have D8 := bnext D7 T8
  have O_x2 := RowO.of hO8
  clear hO8
  clear T8 hb8
  go_wp2_with fail
  refine (implIsReplayV _ _ _ _ hd0 _ n1 x1 _ x2 _ (O_x0.read hB0) (O_x1.recs (by omega)) (O_x2.ints (by omega)) O_x0.nils hB0).mono ?_
  rintro e w9_ ⟨rfl, hb9⟩
  have T9 := hb9
  have Z9 := hb9.size
  replace yp0 : w.heap.size < w9_.heap.size := by omega
  replace kp0_0 := (T9.cell (p := ⟨w.heap.size, 0, none⟩) (by simp only []; omega)).trans kp0_0
  replace kp0_1 := (T9.cell (p := ⟨w.heap.size, 1, none⟩) (by simp only []; omega)).trans kp0_1
  replace kp0_2 := (T9.cell (p := ⟨w.heap.size, 2, none⟩) (by simp only []; omega)).trans kp0_2
  replace kp0_3 := (T9.cell (p := ⟨w.heap.size, 3, none⟩) (by simp only []; omega)).trans kp0_3
  replace kp0_4 := (T9.cell (p := ⟨w.heap.size, 4, none⟩) (by simp only []; omega)).trans kp0_4
  replace kp0_5 := (T9.cell (p := ⟨w.heap.size, 5, none⟩) (by simp only []; omega)).trans kp0_5
  replace yx0 : w6_.heap.size < w9_.heap.size := by omega
  replace kx0_0 := (T9.cell (p := ⟨w6_.heap.size, 0, none⟩) (by simp only []; omega)).trans kx0_0
  replace kx0_1 := (T9.cell (p := ⟨w6_.heap.size, 1, none⟩) (by simp only []; omega)).trans kx0_1
  replace kx0_2 := (T9.cell (p := ⟨w6_.heap.size, 2, none⟩) (by simp only []; omega)).trans kx0_2
  replace kx0_3 := (T9.cell (p := ⟨w6_.heap.size, 3, none⟩) (by simp only []; omega)).trans kx0_3
  replace kx0_4 := (T9.cell (p := ⟨w6_.heap.size, 4, none⟩) (by simp only []; omega)).trans kx0_4
  replace kx0_5 := (T9.cell (p := ⟨w6_.heap.size, 5, none⟩) (by simp only []; omega)).trans kx0_5
  replace O_x0 := O_x0.below T9
  replace O_x1 := O_x1.below T9
  replace O_x2 := O_x2.below T9
  have D9 := bnext D8 T9
  clear T9 hb9
  go_wp2_with fail
  have RP_ := (h0.below D9)
  have RX_ := (O_x0.read hB0)
  have MK : Hid (∀ w', Below w9_.heap.size w9_ w' → w'.cell? ⟨w6_.heap.size, 0, none⟩ = some ((.slice (some ⟨gc_6, 0, none⟩) hd0.n hd0.n)) ∧ w'.cell? ⟨w6_.heap.size, 1, none⟩ = some ((.slice (some ⟨gm_6, 0, none⟩) hd0.ms.length hd0.ms.length)) ∧ w'.cell? ⟨w6_.heap.size, 2, none⟩ = some ((.slice (some ⟨go_6, 0, none⟩) hd0.os.length hd0.os.length)) ∧ w'.cell? ⟨w6_.heap.size, 3, none⟩ = some ((.slice (some ⟨gt_6, 0, none⟩) hd0.ts.length hd0.ts.length)) ∧ w'.cell? ⟨w6_.heap.size, 4, none⟩ = some (.int .i64 (hd0).sent) ∧ w'.cell? ⟨w6_.heap.size, 5, none⟩ = some (.int .i64 (hd0).day) ∧ w'.cell? ⟨w.heap.size, 0, none⟩ = some ((.slice adc0 hd0.n capc0)) ∧ w'.cell? ⟨w.heap.size, 1, none⟩ = some ((.slice adm0 hd0.ms.length capm0)) ∧ w'.cell? ⟨w.heap.size, 2, none⟩ = some ((.slice ado0 hd0.os.length capo0)) ∧ w'.cell? ⟨w.heap.size, 3, none⟩ = some ((.slice adt0 hd0.ts.length capt0)) ∧ w'.cell? ⟨w.heap.size, 4, none⟩ = some (.int .i64 (hd0).sent) ∧ w'.cell? ⟨w.heap.size, 5, none⟩ = some (.int .i64 (hd0).day) ∧ HouseR w' (.slice adc0 hd0.n capc0) (.slice adm0 hd0.ms.length capm0) (.slice ado0 hd0.os.length capo0) (.slice adt0 hd0.ts.length capt0) (hd0) ∧ HouseR w' (.slice (some ⟨gc_6, 0, none⟩) hd0.n hd0.n) (.slice (some ⟨gm_6, 0, none⟩) hd0.ms.length hd0.ms.length) (.slice (some ⟨go_6, 0, none⟩) hd0.os.length hd0.os.length) (.slice (some ⟨gt_6, 0, none⟩) hd0.ts.length hd0.ts.length) (hd0) ∧ Below w9_.heap.size w9_ w') :=
    fun w' hb => ⟨(hb.cell (p := ⟨w6_.heap.size, 0, none⟩) (by simp only []; omega)).trans kx0_0, (hb.cell (p := ⟨w6_.heap.size, 1, none⟩) (by simp only []; omega)).trans kx0_1, (hb.cell (p := ⟨w6_.heap.size, 2, none⟩) (by simp only []; omega)).trans kx0_2, (hb.cell (p := ⟨w6_.heap.size, 3, none⟩) (by simp only []; omega)).trans kx0_3, (hb.cell (p := ⟨w6_.heap.size, 4, none⟩) (by simp only []; omega)).trans kx0_4, (hb.cell (p := ⟨w6_.heap.size, 5, none⟩) (by simp only []; omega)).trans kx0_5, (hb.cell (p := ⟨w.heap.size, 0, none⟩) (by simp only []; omega)).trans kp0_0, (hb.cell (p := ⟨w.heap.size, 1, none⟩) (by simp only []; omega)).trans kp0_1, (hb.cell (p := ⟨w.heap.size, 2, none⟩) (by simp only []; omega)).trans kp0_2, (hb.cell (p := ⟨w.heap.size, 3, none⟩) (by simp only []; omega)).trans kp0_3, (hb.cell (p := ⟨w.heap.size, 4, none⟩) (by simp only []; omega)).trans kp0_4, (hb.cell (p := ⟨w.heap.size, 5, none⟩) (by simp only []; omega)).trans kp0_5, RP_.below hb, RX_.below hb, hb⟩
  clear RP_ RX_
  go_wp2_with fail
  go_region_held3 (fun w' => w'.cell? ⟨w6_.heap.size, 0, none⟩ = some ((.slice (some ⟨gc_6, 0, none⟩) hd0.n hd0.n)) ∧ w'.cell? ⟨w6_.heap.size, 1, none⟩ = some ((.slice (some ⟨gm_6, 0, none⟩) hd0.ms.length hd0.ms.length)) ∧ w'.cell? ⟨w6_.heap.size, 2, none⟩ = some ((.slice (some ⟨go_6, 0, none⟩) hd0.os.length hd0.os.length)) ∧ w'.cell? ⟨w6_.heap.size, 3, none⟩ = some ((.slice (some ⟨gt_6, 0, none⟩) hd0.ts.length hd0.ts.length)) ∧ w'.cell? ⟨w6_.heap.size, 4, none⟩ = some (.int .i64 (hd0).sent) ∧ w'.cell? ⟨w6_.heap.size, 5, none⟩ = some (.int .i64 (hd0).day) ∧ w'.cell? ⟨w.heap.size, 0, none⟩ = some ((.slice adc0 hd0.n capc0)) ∧ w'.cell? ⟨w.heap.size, 1, none⟩ = some ((.slice adm0 hd0.ms.length capm0)) ∧ w'.cell? ⟨w.heap.size, 2, none⟩ = some ((.slice ado0 hd0.os.length capo0)) ∧ w'.cell? ⟨w.heap.size, 3, none⟩ = some ((.slice adt0 hd0.ts.length capt0)) ∧ w'.cell? ⟨w.heap.size, 4, none⟩ = some (.int .i64 (hd0).sent) ∧ w'.cell? ⟨w.heap.size, 5, none⟩ = some (.int .i64 (hd0).day) ∧ HouseR w' (.slice adc0 hd0.n capc0) (.slice adm0 hd0.ms.length capm0) (.slice ado0 hd0.os.length capo0) (.slice adt0 hd0.ts.length capt0) (hd0) ∧ HouseR w' (.slice (some ⟨gc_6, 0, none⟩) hd0.n hd0.n) (.slice (some ⟨gm_6, 0, none⟩) hd0.ms.length hd0.ms.length) (.slice (some ⟨go_6, 0, none⟩) hd0.os.length hd0.os.length) (.slice (some ⟨gt_6, 0, none⟩) hd0.ts.length hd0.ts.length) (hd0) ∧ Below w9_.heap.size w9_ w')
    (first | exact MK.out _ (bdrew (bref _)) | (go_split_ands; exact MK.out _ (bnext (by assumption) hb10)) | (go_split_ands; exact MK.out _ (bnext (by assumption) hb11)))
    (first | (go_at_call 25; go_split_ands; refine (toHouse_any _ _ _ _ (hd0) _ (by assumption) hB0).mono ?_; rintro e w10_ ⟨gc_10, gm_10, go_10, gt_10, rfl, hO10, hb10⟩)
           | (go_at_call 28; go_split_ands; refine (eqHouse_same _ _ _ _ _ _ _ _ (hd0) _ (by assumption) ((hO10).read hB0)).mono ?_; rintro e w11_ ⟨rfl, hb11⟩))
  go_split_ands
  have hbq : Below w9_.heap.size w9_ w11_ := by assumption
  clear hb11
  have hb11 := hbq
  clear hbq MK
  have T11 := hb11
  have Z11 := hb11.size
  replace yp0 : w.heap.size < w11_.heap.size := by omega
  replace kp0_0 := (T11.cell (p := ⟨w.heap.size, 0, none⟩) (by simp only []; omega)).trans kp0_0
  replace kp0_1 := (T11.cell (p := ⟨w.heap.size, 1, none⟩) (by simp only []; omega)).trans kp0_1
  replace kp0_2 := (T11.cell (p := ⟨w.heap.size, 2, none⟩) (by simp only []; omega)).trans kp0_2
  replace kp0_3 := (T11.cell (p := ⟨w.heap.size, 3, none⟩) (by simp only []; omega)).trans kp0_3
  replace kp0_4 := (T11.cell (p := ⟨w.heap.size, 4, none⟩) (by simp only []; omega)).trans kp0_4
  replace kp0_5 := (T11.cell (p := ⟨w.heap.size, 5, none⟩) (by simp only []; omega)).trans kp0_5
  replace yx0 : w6_.heap.size < w11_.heap.size := by omega
  replace kx0_0 := (T11.cell (p := ⟨w6_.heap.size, 0, none⟩) (by simp only []; omega)).trans kx0_0
  replace kx0_1 := (T11.cell (p := ⟨w6_.heap.size, 1, none⟩) (by simp only []; omega)).trans kx0_1
  replace kx0_2 := (T11.cell (p := ⟨w6_.heap.size, 2, none⟩) (by simp only []; omega)).trans kx0_2
  replace kx0_3 := (T11.cell (p := ⟨w6_.heap.size, 3, none⟩) (by simp only []; omega)).trans kx0_3
  replace kx0_4 := (T11.cell (p := ⟨w6_.heap.size, 4, none⟩) (by simp only []; omega)).trans kx0_4
  replace kx0_5 := (T11.cell (p := ⟨w6_.heap.size, 5, none⟩) (by simp only []; omega)).trans kx0_5
  replace O_x0 := O_x0.below T11
  replace O_x1 := O_x1.below T11
  replace O_x2 := O_x2.below T11
  have D11 := bnext D9 T11
  clear T11 hb11
  go_wp2_with fail
  refine (toActS_any _ n1 x1 _ (h1.below D11) (by omega)).mono ?_
  rintro e w12_ ⟨rfl, hO12, hb12⟩
  have T12 := hb12
  have Z12 := hb12.size
  replace yp0 : w.heap.size < w12_.heap.size := by omega
  replace kp0_0 := (T12.cell (p := ⟨w.heap.size, 0, none⟩) (by simp only []; omega)).trans kp0_0
  replace kp0_1 := (T12.cell (p := ⟨w.heap.size, 1, none⟩) (by simp only []; omega)).trans kp0_1
  replace kp0_2 := (T12.cell (p := ⟨w.heap.size, 2, none⟩) (by simp only []; omega)).trans kp0_2
  replace kp0_3 := (T12.cell (p := ⟨w.heap.size, 3, none⟩) (by simp only []; omega)).trans kp0_3
  replace kp0_4 := (T12.cell (p := ⟨w.heap.size, 4, none⟩) (by simp only []; omega)).trans kp0_4
  replace kp0_5 := (T12.cell (p := ⟨w.heap.size, 5, none⟩) (by simp only []; omega)).trans kp0_5
  replace yx0 : w6_.heap.size < w12_.heap.size := by omega
  replace kx0_0 := (T12.cell (p := ⟨w6_.heap.size, 0, none⟩) (by simp only []; omega)).trans kx0_0
  replace kx0_1 := (T12.cell (p := ⟨w6_.heap.size, 1, none⟩) (by simp only []; omega)).trans kx0_1
  replace kx0_2 := (T12.cell (p := ⟨w6_.heap.size, 2, none⟩) (by simp only []; omega)).trans kx0_2
  replace kx0_3 := (T12.cell (p := ⟨w6_.heap.size, 3, none⟩) (by simp only []; omega)).trans kx0_3
  replace kx0_4 := (T12.cell (p := ⟨w6_.heap.size, 4, none⟩) (by simp only []; omega)).trans kx0_4
  replace kx0_5 := (T12.cell (p := ⟨w6_.heap.size, 5, none⟩) (by simp only []; omega)).trans kx0_5
  replace O_x0 := O_x0.below T12
  replace O_x1 := O_x1.below T12
  replace O_x2 := O_x2.below T12
  have D12 := bnext D11 T12
  have O_t := RowO.of hO12
  clear hO12
  clear T12 hb12
  go_wp2_with fail
  refine (eqActS_any _ _ n1 n1 (x1) (x1) _ (O_x1.recs (by omega)) (O_t.recs (by omega))).mono ?_
  rintro e w13_ ⟨rfl, hb13⟩
  have T13 := hb13
  have Z13 := hb13.size
  replace yp0 : w.heap.size < w13_.heap.size := by omega
  replace kp0_0 := (T13.cell (p := ⟨w.heap.size, 0, none⟩) (by simp only []; omega)).trans kp0_0
  replace kp0_1 := (T13.cell (p := ⟨w.heap.size, 1, none⟩) (by simp only []; omega)).trans kp0_1
  replace kp0_2 := (T13.cell (p := ⟨w.heap.size, 2, none⟩) (by simp only []; omega)).trans kp0_2
  replace kp0_3 := (T13.cell (p := ⟨w.heap.size, 3, none⟩) (by simp only []; omega)).trans kp0_3
  replace kp0_4 := (T13.cell (p := ⟨w.heap.size, 4, none⟩) (by simp only []; omega)).trans kp0_4
  replace kp0_5 := (T13.cell (p := ⟨w.heap.size, 5, none⟩) (by simp only []; omega)).trans kp0_5
  replace yx0 : w6_.heap.size < w13_.heap.size := by omega
  replace kx0_0 := (T13.cell (p := ⟨w6_.heap.size, 0, none⟩) (by simp only []; omega)).trans kx0_0
  replace kx0_1 := (T13.cell (p := ⟨w6_.heap.size, 1, none⟩) (by simp only []; omega)).trans kx0_1
  replace kx0_2 := (T13.cell (p := ⟨w6_.heap.size, 2, none⟩) (by simp only []; omega)).trans kx0_2
  replace kx0_3 := (T13.cell (p := ⟨w6_.heap.size, 3, none⟩) (by simp only []; omega)).trans kx0_3
  replace kx0_4 := (T13.cell (p := ⟨w6_.heap.size, 4, none⟩) (by simp only []; omega)).trans kx0_4
  replace kx0_5 := (T13.cell (p := ⟨w6_.heap.size, 5, none⟩) (by simp only []; omega)).trans kx0_5
  replace O_x0 := O_x0.below T13
  replace O_x1 := O_x1.below T13
  replace O_x2 := O_x2.below T13
  replace O_t := O_t.below T13
  have D13 := bnext D12 T13
  clear T13 hb13
  clear O_t
  go_wp2_with fail
  refine (toIntS_any _ (x2) _ (h2.below D13) (by omega)).mono ?_
  rintro e w14_ ⟨rfl, hO14, hb14⟩
  have T14 := hb14
  have Z14 := hb14.size
  replace yp0 : w.heap.size < w14_.heap.size := by omega
  replace kp0_0 := (T14.cell (p := ⟨w.heap.size, 0, none⟩) (by simp only []; omega)).trans kp0_0
  replace kp0_1 := (T14.cell (p := ⟨w.heap.size, 1, none⟩) (by simp only []; omega)).trans kp0_1
  replace kp0_2 := (T14.cell (p := ⟨w.heap.size, 2, none⟩) (by simp only []; omega)).trans kp0_2
  replace kp0_3 := (T14.cell (p := ⟨w.heap.size, 3, none⟩) (by simp only []; omega)).trans kp0_3
  replace kp0_4 := (T14.cell (p := ⟨w.heap.size, 4, none⟩) (by simp only []; omega)).trans kp0_4
  replace kp0_5 := (T14.cell (p := ⟨w.heap.size, 5, none⟩) (by simp only []; omega)).trans kp0_5
  replace yx0 : w6_.heap.size < w14_.heap.size := by omega
  replace kx0_0 := (T14.cell (p := ⟨w6_.heap.size, 0, none⟩) (by simp only []; omega)).trans kx0_0
  replace kx0_1 := (T14.cell (p := ⟨w6_.heap.size, 1, none⟩) (by simp only []; omega)).trans kx0_1
  replace kx0_2 := (T14.cell (p := ⟨w6_.heap.size, 2, none⟩) (by simp only []; omega)).trans kx0_2
  replace kx0_3 := (T14.cell (p := ⟨w6_.heap.size, 3, none⟩) (by simp only []; omega)).trans kx0_3
  replace kx0_4 := (T14.cell (p := ⟨w6_.heap.size, 4, none⟩) (by simp only []; omega)).trans kx0_4
  replace kx0_5 := (T14.cell (p := ⟨w6_.heap.size, 5, none⟩) (by simp only []; omega)).trans kx0_5
  replace O_x0 := O_x0.below T14
  replace O_x1 := O_x1.below T14
  replace O_x2 := O_x2.below T14
  have D14 := bnext D13 T14
  have O_t := RowO.of hO14
  clear hO14
  clear T14 hb14
  go_wp2_with fail
  refine (eqIntS_bel _ _ (x2) (x2) _ (O_x2.ints (by omega)) (O_t.ints (by omega))).mono ?_
  rintro e w15_ ⟨rfl, hb15⟩
  have T15 := hb15
  have Z15 := hb15.size
  replace yp0 : w.heap.size < w15_.heap.size := by omega
  replace kp0_0 := (T15.cell (p := ⟨w.heap.size, 0, none⟩) (by simp only []; omega)).trans kp0_0
  replace kp0_1 := (T15.cell (p := ⟨w.heap.size, 1, none⟩) (by simp only []; omega)).trans kp0_1
  replace kp0_2 := (T15.cell (p := ⟨w.heap.size, 2, none⟩) (by simp only []; omega)).trans kp0_2
  replace kp0_3 := (T15.cell (p := ⟨w.heap.size, 3, none⟩) (by simp only []; omega)).trans kp0_3
  replace kp0_4 := (T15.cell (p := ⟨w.heap.size, 4, none⟩) (by simp only []; omega)).trans kp0_4
  replace kp0_5 := (T15.cell (p := ⟨w.heap.size, 5, none⟩) (by simp only []; omega)).trans kp0_5
  replace yx0 : w6_.heap.size < w15_.heap.size := by omega
  replace kx0_0 := (T15.cell (p := ⟨w6_.heap.size, 0, none⟩) (by simp only []; omega)).trans kx0_0
  replace kx0_1 := (T15.cell (p := ⟨w6_.heap.size, 1, none⟩) (by simp only []; omega)).trans kx0_1
  replace kx0_2 := (T15.cell (p := ⟨w6_.heap.size, 2, none⟩) (by simp only []; omega)).trans kx0_2
  replace kx0_3 := (T15.cell (p := ⟨w6_.heap.size, 3, none⟩) (by simp only []; omega)).trans kx0_3
  replace kx0_4 := (T15.cell (p := ⟨w6_.heap.size, 4, none⟩) (by simp only []; omega)).trans kx0_4
  replace kx0_5 := (T15.cell (p := ⟨w6_.heap.size, 5, none⟩) (by simp only []; omega)).trans kx0_5
  replace O_x0 := O_x0.below T15
  replace O_x1 := O_x1.below T15
  replace O_x2 := O_x2.below T15
  replace O_t := O_t.below T15
  have D15 := bnext D14 T15
  clear T15 hb15
  clear O_t
  go_wp2
  go_ret
  exact ⟨rfl, D15⟩
end Go.Proofs.Ytfmlakldaoojfaa
