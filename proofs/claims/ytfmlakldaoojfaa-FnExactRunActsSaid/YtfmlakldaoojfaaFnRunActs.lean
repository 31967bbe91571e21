/- The law that compares RunActs with the reference, walked. -/
import Derived.Test.YtfmlakldaoojfaaGL
import Derived.Test.YtfmlakldaoojfaaGI
import Derived.Test.YtfmlakldaoojfaaGB
import Derived.Deep.RegionHeld3
namespace Go.Proofs.Ytfmlakldaoojfaa
open Go.ChangeShapes Go.WideShapes Go.ChangeAt Go.RowKit
set_option maxRecDepth 100000 in
set_option maxHeartbeats 4000000 in
theorem fnExactRunActs_any (vc0 vm0 vo0 vt0 : Value) (hd0 : HD) (v1 : Value) (n1 : Nat) (x1 : List Int) (w : World) (h0 : HouseR w vc0 vm0 vo0 vt0 hd0) (h1 : Recs 5 w v1 n1 x1) :
    Calls Try.prog 6 #[.agg #[vc0, vm0, vo0, vt0, .int .i64 (hd0).sent, .int .i64 (hd0).day], v1] w fun e w' => e = .returned (.bool true) ∧ Below w.heap.size w w' := by
  obtain ⟨adc0, capc0, rfl⟩ : ∃ ad cap, vc0 = .slice ad hd0.n cap := by obtain ⟨_, _, ad, cap, hh, _⟩ := h0.c; exact ⟨ad, cap, hh⟩
  obtain ⟨adm0, capm0, rfl⟩ : ∃ ad cap, vm0 = .slice ad hd0.ms.length cap := by obtain ⟨_, ad, cap, hh, _⟩ := h0.m; exact ⟨ad, cap, hh⟩
  obtain ⟨ado0, capo0, rfl⟩ : ∃ ad cap, vo0 = .slice ad hd0.os.length cap := by obtain ⟨_, ad, cap, hh, _⟩ := h0.o; exact ⟨ad, cap, hh⟩
  obtain ⟨adt0, capt0, rfl⟩ : ∃ ad cap, vt0 = .slice ad hd0.ts.length cap := by obtain ⟨_, ad, cap, hh, _⟩ := h0.t; exact ⟨ad, cap, hh⟩
  have l1 := h1.len
  by_cases q0 : (1048576 : Int) < ((hd0).size : Int)
  · skip
    go_enter Try.func6, Try.ntmps6
    go_wp2_with fail
    refine (szHouse_any _ _ _ _ (hd0) (1048576) _ (h0.below (balloc (bref _) _)) (by omega) (by omega)).mono ?_
    rintro e w1_ ⟨rfl, hb1⟩
    have T1 := bnext (balloc (bref _) _) hb1
    have Z1 : w.heap.size + 1 ≤ w1_.heap.size := by have h := hb1.size; simp at h; omega
    have yp0 : w.heap.size < w1_.heap.size := by omega
    have kp0_0 : w1_.cell? ⟨w.heap.size, 0, none⟩ = some ((.slice adc0 hd0.n capc0)) := (hb1.cell (p := ⟨w.heap.size, 0, none⟩) (by simp)).trans (by simp)
    have kp0_1 : w1_.cell? ⟨w.heap.size, 1, none⟩ = some ((.slice adm0 hd0.ms.length capm0)) := (hb1.cell (p := ⟨w.heap.size, 1, none⟩) (by simp)).trans (by simp)
    have kp0_2 : w1_.cell? ⟨w.heap.size, 2, none⟩ = some ((.slice ado0 hd0.os.length capo0)) := (hb1.cell (p := ⟨w.heap.size, 2, none⟩) (by simp)).trans (by simp)
    have kp0_3 : w1_.cell? ⟨w.heap.size, 3, none⟩ = some ((.slice adt0 hd0.ts.length capt0)) := (hb1.cell (p := ⟨w.heap.size, 3, none⟩) (by simp)).trans (by simp)
    have kp0_4 : w1_.cell? ⟨w.heap.size, 4, none⟩ = some (.int .i64 (hd0).sent) := (hb1.cell (p := ⟨w.heap.size, 4, none⟩) (by simp)).trans (by simp)
    have kp0_5 : w1_.cell? ⟨w.heap.size, 5, none⟩ = some (.int .i64 (hd0).day) := (hb1.cell (p := ⟨w.heap.size, 5, none⟩) (by simp)).trans (by simp)
    have D1 := bnext (bref w) T1
    clear T1 hb1
    rw [szRes_lt (by omega)]
    go_wp2
    go_ret
    exact ⟨rfl, D1⟩
  by_cases q1 : ((1048576 : Int) - ((hd0).size : Int)) < (n1 : Int)
  · skip
    go_enter Try.func6, Try.ntmps6
    go_wp2_with fail
    refine (szHouse_any _ _ _ _ (hd0) (1048576) _ (h0.below (balloc (bref _) _)) (by omega) (by omega)).mono ?_
    rintro e w1_ ⟨rfl, hb1⟩
    have T1 := bnext (balloc (bref _) _) hb1
    have Z1 : w.heap.size + 1 ≤ w1_.heap.size := by have h := hb1.size; simp at h; omega
    have yp0 : w.heap.size < w1_.heap.size := by omega
    have kp0_0 : w1_.cell? ⟨w.heap.size, 0, none⟩ = some ((.slice adc0 hd0.n capc0)) := (hb1.cell (p := ⟨w.heap.size, 0, none⟩) (by simp)).trans (by simp)
    have kp0_1 : w1_.cell? ⟨w.heap.size, 1, none⟩ = some ((.slice adm0 hd0.ms.length capm0)) := (hb1.cell (p := ⟨w.heap.size, 1, none⟩) (by simp)).trans (by simp)
    have kp0_2 : w1_.cell? ⟨w.heap.size, 2, none⟩ = some ((.slice ado0 hd0.os.length capo0)) := (hb1.cell (p := ⟨w.heap.size, 2, none⟩) (by simp)).trans (by simp)
    have kp0_3 : w1_.cell? ⟨w.heap.size, 3, none⟩ = some ((.slice adt0 hd0.ts.length capt0)) := (hb1.cell (p := ⟨w.heap.size, 3, none⟩) (by simp)).trans (by simp)
    have kp0_4 : w1_.cell? ⟨w.heap.size, 4, none⟩ = some (.int .i64 (hd0).sent) := (hb1.cell (p := ⟨w.heap.size, 4, none⟩) (by simp)).trans (by simp)
    have kp0_5 : w1_.cell? ⟨w.heap.size, 5, none⟩ = some (.int .i64 (hd0).day) := (hb1.cell (p := ⟨w.heap.size, 5, none⟩) (by simp)).trans (by simp)
    have D1 := bnext (bref w) T1
    clear T1 hb1
    rw [szRes_ge (by omega)]
    go_wp2_with fail
    refine (szActS_any _ n1 x1 (1048576 - ((hd0).size : Int)) _ (h1.below D1) (by omega) (by omega)).mono ?_
    rintro e w' ⟨rfl, rfl⟩
    rw [if_pos (by omega)]
    go_wp2
    go_ret
    exact ⟨rfl, D1⟩
  have hB0 : HouseB hd0 1048576 := ⟨by unfold HD.size at q0; omega, by unfold HD.size at q0; omega, by unfold HD.size at q0; omega, by unfold HD.size at q0; omega⟩
  have hN := runActs_b hB0 n1 x1
  have hL := runActs_len hd0 n1 x1
  have hK := bulk_le hN
  have hK0 := bulk_le hB0
  go_enter Try.func6, Try.ntmps6
  go_wp2_with fail
  refine (szHouse_any _ _ _ _ (hd0) (1048576) _ (h0.below (balloc (bref _) _)) (by omega) (by omega)).mono ?_
  rintro e w1_ ⟨rfl, hb1⟩
  have T1 := bnext (balloc (bref _) _) hb1
  have Z1 : w.heap.size + 1 ≤ w1_.heap.size := by have h := hb1.size; simp at h; omega
  have yp0 : w.heap.size < w1_.heap.size := by omega
  have kp0_0 : w1_.cell? ⟨w.heap.size, 0, none⟩ = some ((.slice adc0 hd0.n capc0)) := (hb1.cell (p := ⟨w.heap.size, 0, none⟩) (by simp)).trans (by simp)
  have kp0_1 : w1_.cell? ⟨w.heap.size, 1, none⟩ = some ((.slice adm0 hd0.ms.length capm0)) := (hb1.cell (p := ⟨w.heap.size, 1, none⟩) (by simp)).trans (by simp)
  have kp0_2 : w1_.cell? ⟨w.heap.size, 2, none⟩ = some ((.slice ado0 hd0.os.length capo0)) := (hb1.cell (p := ⟨w.heap.size, 2, none⟩) (by simp)).trans (by simp)
  have kp0_3 : w1_.cell? ⟨w.heap.size, 3, none⟩ = some ((.slice adt0 hd0.ts.length capt0)) := (hb1.cell (p := ⟨w.heap.size, 3, none⟩) (by simp)).trans (by simp)
  have kp0_4 : w1_.cell? ⟨w.heap.size, 4, none⟩ = some (.int .i64 (hd0).sent) := (hb1.cell (p := ⟨w.heap.size, 4, none⟩) (by simp)).trans (by simp)
  have kp0_5 : w1_.cell? ⟨w.heap.size, 5, none⟩ = some (.int .i64 (hd0).day) := (hb1.cell (p := ⟨w.heap.size, 5, none⟩) (by simp)).trans (by simp)
  have D1 := bnext (bref w) T1
  clear T1 hb1
  rw [szRes_ge (by omega)]
  go_wp2_with fail
  refine (szActS_any _ n1 x1 (1048576 - ((hd0).size : Int)) _ (h1.below D1) (by omega) (by omega)).mono ?_
  rintro e w' ⟨rfl, rfl⟩
  rw [if_neg (by omega)]
  go_wp2_with fail
  refine (toHouse_any _ _ _ _ (hd0) _ (h0.below D1) hB0).mono ?_
  rintro e w2_ ⟨gc_2, gm_2, go_2, gt_2, rfl, hO2, hb2⟩
  have T2 := hb2
  have Z2 := hb2.size
  replace yp0 : w.heap.size < w2_.heap.size := by omega
  replace kp0_0 := (T2.cell (p := ⟨w.heap.size, 0, none⟩) (by simp only []; omega)).trans kp0_0
  replace kp0_1 := (T2.cell (p := ⟨w.heap.size, 1, none⟩) (by simp only []; omega)).trans kp0_1
  replace kp0_2 := (T2.cell (p := ⟨w.heap.size, 2, none⟩) (by simp only []; omega)).trans kp0_2
  replace kp0_3 := (T2.cell (p := ⟨w.heap.size, 3, none⟩) (by simp only []; omega)).trans kp0_3
  replace kp0_4 := (T2.cell (p := ⟨w.heap.size, 4, none⟩) (by simp only []; omega)).trans kp0_4
  replace kp0_5 := (T2.cell (p := ⟨w.heap.size, 5, none⟩) (by simp only []; omega)).trans kp0_5
  have D2 := bnext D1 T2
  have O_s0 := hO2
  clear hO2
  clear T2 hb2
  go_wp2_with fail
  refine (toActS_any _ n1 x1 _ (h1.below D2) (by omega)).mono ?_
  rintro e w3_ ⟨rfl, hO3, hb3⟩
  have T3 := hb3
  have Z3 := hb3.size
  replace yp0 : w.heap.size < w3_.heap.size := by omega
  replace kp0_0 := (T3.cell (p := ⟨w.heap.size, 0, none⟩) (by simp only []; omega)).trans kp0_0
  replace kp0_1 := (T3.cell (p := ⟨w.heap.size, 1, none⟩) (by simp only []; omega)).trans kp0_1
  replace kp0_2 := (T3.cell (p := ⟨w.heap.size, 2, none⟩) (by simp only []; omega)).trans kp0_2
  replace kp0_3 := (T3.cell (p := ⟨w.heap.size, 3, none⟩) (by simp only []; omega)).trans kp0_3
  replace kp0_4 := (T3.cell (p := ⟨w.heap.size, 4, none⟩) (by simp only []; omega)).trans kp0_4
  replace kp0_5 := (T3.cell (p := ⟨w.heap.size, 5, none⟩) (by simp only []; omega)).trans kp0_5
  replace O_s0 := O_s0.below T3
  have D3 := bnext D2 T3
  have O_s1 := RowO.of hO3
  clear hO3
  clear T3 hb3
  go_wp2_with fail
  refine (specRunActsV _ _ _ _ hd0 _ n1 x1 _ (O_s0.read hB0) (O_s1.recs (by omega)) O_s0.nils hB0).mono ?_
  rintro e w4_ ⟨ac_4, cc_4, am_4, cm_4, ao_4, co_4, at_4, ct_4, al_4, cl_4, rfl, hO4, ⟨p_4, q_4, pa_4, qa_4, hP4, oc_4, om_4, oo_4, ot_4⟩, hb4⟩
  have T4 := hb4
  have Z4 := hb4.size
  replace yp0 : w.heap.size < w4_.heap.size := by omega
  replace kp0_0 := (T4.cell (p := ⟨w.heap.size, 0, none⟩) (by simp only []; omega)).trans kp0_0
  replace kp0_1 := (T4.cell (p := ⟨w.heap.size, 1, none⟩) (by simp only []; omega)).trans kp0_1
  replace kp0_2 := (T4.cell (p := ⟨w.heap.size, 2, none⟩) (by simp only []; omega)).trans kp0_2
  replace kp0_3 := (T4.cell (p := ⟨w.heap.size, 3, none⟩) (by simp only []; omega)).trans kp0_3
  replace kp0_4 := (T4.cell (p := ⟨w.heap.size, 4, none⟩) (by simp only []; omega)).trans kp0_4
  replace kp0_5 := (T4.cell (p := ⟨w.heap.size, 5, none⟩) (by simp only []; omega)).trans kp0_5
  replace O_s0 := O_s0.below T4
  replace O_s1 := O_s1.below T4
  have D4 := bnext D3 T4
  have O_w0 := hO4
  clear hO4
  have pw_4 : w3_.heap.size + 0 ≤ p_4 := by have h := pa_4; first | omega | (simp at h; omega)
  have O_w1 := hP4
  clear hP4
  clear T4 hb4
  go_wp2_with fail
  clear O_s0
  clear O_s1
  refine (toHouse_any _ _ _ _ (hd0) _ ((h0.below D4).below (balloc (bref _) _)) hB0).mono ?_
  rintro e w5_ ⟨gc_5, gm_5, go_5, gt_5, rfl, hO5, hb5⟩
  have T5 := bnext (balloc (bref _) _) hb5
  have Z5 : w4_.heap.size + 1 ≤ w5_.heap.size := by have h := hb5.size; simp at h; omega
  replace yp0 : w.heap.size < w5_.heap.size := by omega
  replace kp0_0 := (T5.cell (p := ⟨w.heap.size, 0, none⟩) (by simp only []; omega)).trans kp0_0
  replace kp0_1 := (T5.cell (p := ⟨w.heap.size, 1, none⟩) (by simp only []; omega)).trans kp0_1
  replace kp0_2 := (T5.cell (p := ⟨w.heap.size, 2, none⟩) (by simp only []; omega)).trans kp0_2
  replace kp0_3 := (T5.cell (p := ⟨w.heap.size, 3, none⟩) (by simp only []; omega)).trans kp0_3
  replace kp0_4 := (T5.cell (p := ⟨w.heap.size, 4, none⟩) (by simp only []; omega)).trans kp0_4
  replace kp0_5 := (T5.cell (p := ⟨w.heap.size, 5, none⟩) (by simp only []; omega)).trans kp0_5
  have yw0 : w4_.heap.size < w5_.heap.size := by omega
  have kw0_0 : w5_.cell? ⟨w4_.heap.size, 0, none⟩ = some ((.slice ac_4 ((runActs hd0 n1 x1).1).n cc_4)) := (hb5.cell (p := ⟨w4_.heap.size, 0, none⟩) (by simp)).trans (by simp)
  have kw0_1 : w5_.cell? ⟨w4_.heap.size, 1, none⟩ = some ((.slice am_4 ((runActs hd0 n1 x1).1).ms.length cm_4)) := (hb5.cell (p := ⟨w4_.heap.size, 1, none⟩) (by simp)).trans (by simp)
  have kw0_2 : w5_.cell? ⟨w4_.heap.size, 2, none⟩ = some ((.slice ao_4 ((runActs hd0 n1 x1).1).os.length co_4)) := (hb5.cell (p := ⟨w4_.heap.size, 2, none⟩) (by simp)).trans (by simp)
  have kw0_3 : w5_.cell? ⟨w4_.heap.size, 3, none⟩ = some ((.slice at_4 ((runActs hd0 n1 x1).1).ts.length ct_4)) := (hb5.cell (p := ⟨w4_.heap.size, 3, none⟩) (by simp)).trans (by simp)
  have kw0_4 : w5_.cell? ⟨w4_.heap.size, 4, none⟩ = some (.int .i64 ((runActs hd0 n1 x1).1).sent) := (hb5.cell (p := ⟨w4_.heap.size, 4, none⟩) (by simp)).trans (by simp)
  have kw0_5 : w5_.cell? ⟨w4_.heap.size, 5, none⟩ = some (.int .i64 ((runActs hd0 n1 x1).1).day) := (hb5.cell (p := ⟨w4_.heap.size, 5, none⟩) (by simp)).trans (by simp)
  replace O_w0 := O_w0.below T5
  replace O_w1 := O_w1.below T5
  have D5 := bnext D4 T5
  have O_x0 := (hO5).wide (lo' := w4_.heap.size + 1) (by first | (simp; done) | (simp; omega)) (Nat.le_refl _)
  clear hO5
  clear T5 hb5
  go_wp2_with fail
  refine (toActS_any _ n1 x1 _ ((h1.below D5).below (balloc (bref _) _)) (by omega)).mono ?_
  rintro e w6_ ⟨rfl, hO6, hb6⟩
  simp only [World.size_alloc] at hO6
  have T6 := bnext (balloc (bref _) _) hb6
  have Z6 : w5_.heap.size + 1 ≤ w6_.heap.size := by have h := hb6.size; simp at h; omega
  replace yp0 : w.heap.size < w6_.heap.size := by omega
  replace kp0_0 := (T6.cell (p := ⟨w.heap.size, 0, none⟩) (by simp only []; omega)).trans kp0_0
  replace kp0_1 := (T6.cell (p := ⟨w.heap.size, 1, none⟩) (by simp only []; omega)).trans kp0_1
  replace kp0_2 := (T6.cell (p := ⟨w.heap.size, 2, none⟩) (by simp only []; omega)).trans kp0_2
  replace kp0_3 := (T6.cell (p := ⟨w.heap.size, 3, none⟩) (by simp only []; omega)).trans kp0_3
  replace kp0_4 := (T6.cell (p := ⟨w.heap.size, 4, none⟩) (by simp only []; omega)).trans kp0_4
  replace kp0_5 := (T6.cell (p := ⟨w.heap.size, 5, none⟩) (by simp only []; omega)).trans kp0_5
  replace yw0 : w4_.heap.size < w6_.heap.size := by omega
  replace kw0_0 := (T6.cell (p := ⟨w4_.heap.size, 0, none⟩) (by simp only []; omega)).trans kw0_0
  replace kw0_1 := (T6.cell (p := ⟨w4_.heap.size, 1, none⟩) (by simp only []; omega)).trans kw0_1
  replace kw0_2 := (T6.cell (p := ⟨w4_.heap.size, 2, none⟩) (by simp only []; omega)).trans kw0_2
  replace kw0_3 := (T6.cell (p := ⟨w4_.heap.size, 3, none⟩) (by simp only []; omega)).trans kw0_3
  replace kw0_4 := (T6.cell (p := ⟨w4_.heap.size, 4, none⟩) (by simp only []; omega)).trans kw0_4
  replace kw0_5 := (T6.cell (p := ⟨w4_.heap.size, 5, none⟩) (by simp only []; omega)).trans kw0_5
  have yx0 : w5_.heap.size < w6_.heap.size := by omega
  have kx0_0 : w6_.cell? ⟨w5_.heap.size, 0, none⟩ = some ((.slice (some ⟨gc_5, 0, none⟩) hd0.n hd0.n)) := (hb6.cell (p := ⟨w5_.heap.size, 0, none⟩) (by simp)).trans (by simp)
  have kx0_1 : w6_.cell? ⟨w5_.heap.size, 1, none⟩ = some ((.slice (some ⟨gm_5, 0, none⟩) hd0.ms.length hd0.ms.length)) := (hb6.cell (p := ⟨w5_.heap.size, 1, none⟩) (by simp)).trans (by simp)
  have kx0_2 : w6_.cell? ⟨w5_.heap.size, 2, none⟩ = some ((.slice (some ⟨go_5, 0, none⟩) hd0.os.length hd0.os.length)) := (hb6.cell (p := ⟨w5_.heap.size, 2, none⟩) (by simp)).trans (by simp)
  have kx0_3 : w6_.cell? ⟨w5_.heap.size, 3, none⟩ = some ((.slice (some ⟨gt_5, 0, none⟩) hd0.ts.length hd0.ts.length)) := (hb6.cell (p := ⟨w5_.heap.size, 3, none⟩) (by simp)).trans (by simp)
  have kx0_4 : w6_.cell? ⟨w5_.heap.size, 4, none⟩ = some (.int .i64 (hd0).sent) := (hb6.cell (p := ⟨w5_.heap.size, 4, none⟩) (by simp)).trans (by simp)
  have kx0_5 : w6_.cell? ⟨w5_.heap.size, 5, none⟩ = some (.int .i64 (hd0).day) := (hb6.cell (p := ⟨w5_.heap.size, 5, none⟩) (by simp)).trans (by simp)
  replace O_w0 := O_w0.below T6
  replace O_w1 := O_w1.below T6
  replace O_x0 := O_x0.below T6
  have D6 := bnext D5 T6
  have O_x1 := (RowO.of hO6).wide (lo' := w5_.heap.size + 1) (by first | (simp; done) | (simp; omega)) (Nat.le_refl _)
  clear hO6
  clear T6 hb6
  go_wp2_with fail
  refine (implRunActsV _ _ _ _ hd0 _ n1 x1 _ (O_x0.read hB0) (O_x1.recs (by omega)) O_x0.nils hB0).mono ?_
  rintro e w7_ ⟨ac_7, cc_7, am_7, cm_7, ao_7, co_7, at_7, ct_7, al_7, cl_7, rfl, hO7, ⟨p_7, q_7, pa_7, qa_7, hP7, oc_7, om_7, oo_7, ot_7⟩, hb7⟩
  have T7 := hb7
  have Z7 := hb7.size
  replace yp0 : w.heap.size < w7_.heap.size := by omega
  replace kp0_0 := (T7.cell (p := ⟨w.heap.size, 0, none⟩) (by simp only []; omega)).trans kp0_0
  replace kp0_1 := (T7.cell (p := ⟨w.heap.size, 1, none⟩) (by simp only []; omega)).trans kp0_1
  replace kp0_2 := (T7.cell (p := ⟨w.heap.size, 2, none⟩) (by simp only []; omega)).trans kp0_2
  replace kp0_3 := (T7.cell (p := ⟨w.heap.size, 3, none⟩) (by simp only []; omega)).trans kp0_3
  replace kp0_4 := (T7.cell (p := ⟨w.heap.size, 4, none⟩) (by simp only []; omega)).trans kp0_4
  replace kp0_5 := (T7.cell (p := ⟨w.heap.size, 5, none⟩) (by simp only []; omega)).trans kp0_5
  replace yw0 : w4_.heap.size < w7_.heap.size := by omega
  replace kw0_0 := (T7.cell (p := ⟨w4_.heap.size, 0, none⟩) (by simp only []; omega)).trans kw0_0
  replace kw0_1 := (T7.cell (p := ⟨w4_.heap.size, 1, none⟩) (by simp only []; omega)).trans kw0_1
  replace kw0_2 := (T7.cell (p := ⟨w4_.heap.size, 2, none⟩) (by simp only []; omega)).trans kw0_2
  replace kw0_3 := (T7.cell (p := ⟨w4_.heap.size, 3, none⟩) (by simp only []; omega)).trans kw0_3
  replace kw0_4 := (T7.cell (p := ⟨w4_.heap.size, 4, none⟩) (by simp only []; omega)).trans kw0_4
  replace kw0_5 := (T7.cell (p := ⟨w4_.heap.size, 5, none⟩) (by simp only []; omega)).trans kw0_5
  replace yx0 : w5_.heap.size < w7_.heap.size := by omega
  replace kx0_0 := (T7.cell (p := ⟨w5_.heap.size, 0, none⟩) (by simp only []; omega)).trans kx0_0
  replace kx0_1 := (T7.cell (p := ⟨w5_.heap.size, 1, none⟩) (by simp only []; omega)).trans kx0_1
  replace kx0_2 := (T7.cell (p := ⟨w5_.heap.size, 2, none⟩) (by simp only []; omega)).trans kx0_2
  replace kx0_3 := (T7.cell (p := ⟨w5_.heap.size, 3, none⟩) (by simp only []; omega)).trans kx0_3
  replace kx0_4 := (T7.cell (p := ⟨w5_.heap.size, 4, none⟩) (by simp only []; omega)).trans kx0_4
  replace kx0_5 := (T7.cell (p := ⟨w5_.heap.size, 5, none⟩) (by simp only []; omega)).trans kx0_5
  replace O_w0 := O_w0.below T7
  replace O_w1 := O_w1.below T7
  replace O_x0 := O_x0.below T7
  replace O_x1 := O_x1.below T7
  have D7 := bnext D6 T7
  have O_g0 := hO7
  clear hO7
  have pw_7 : w6_.heap.size + 0 ≤ p_7 := by have h := pa_7; first | omega | (simp at h; omega)
  have O_g1 := hP7
  clear hP7
  clear T7 hb7
  go_wp2_with fail
  refine (eqHouse_same _ _ _ _ _ _ _ _ ((runActs hd0 n1 x1).1) _ ((O_g0.read hN).below (balloc (bref _) _)) ((O_w0.read hN).below (balloc (bref _) _))).mono ?_
  rintro e w8_ ⟨rfl, hb8⟩
  have T8 := bnext (balloc (bref _) _) hb8
  have Z8 : w7_.heap.size + 1 ≤ w8_.heap.size := by have h := hb8.size; simp at h; omega
  replace yp0 : w.heap.size < w8_.heap.size := by omega
  replace kp0_0 := (T8.cell (p := ⟨w.heap.size, 0, none⟩) (by simp only []; omega)).trans kp0_0
  replace kp0_1 := (T8.cell (p := ⟨w.heap.size, 1, none⟩) (by simp only []; omega)).trans kp0_1
  replace kp0_2 := (T8.cell (p := ⟨w.heap.size, 2, none⟩) (by simp only []; omega)).trans kp0_2
  replace kp0_3 := (T8.cell (p := ⟨w.heap.size, 3, none⟩) (by simp only []; omega)).trans kp0_3
  replace kp0_4 := (T8.cell (p := ⟨w.heap.size, 4, none⟩) (by simp only []; omega)).trans kp0_4
  replace kp0_5 := (T8.cell (p := ⟨w.heap.size, 5, none⟩) (by simp only []; omega)).trans kp0_5
  replace yw0 : w4_.heap.size < w8_.heap.size := by omega
  replace kw0_0 := (T8.cell (p := ⟨w4_.heap.size, 0, none⟩) (by simp only []; omega)).trans kw0_0
  replace kw0_1 := (T8.cell (p := ⟨w4_.heap.size, 1, none⟩) (by simp only []; omega)).trans kw0_1
  replace kw0_2 := (T8.cell (p := ⟨w4_.heap.size, 2, none⟩) (by simp only []; omega)).trans kw0_2
  replace kw0_3 := (T8.cell (p := ⟨w4_.heap.size, 3, none⟩) (by simp only []; omega)).trans kw0_3
  replace kw0_4 := (T8.cell (p := ⟨w4_.heap.size, 4, none⟩) (by simp only []; omega)).trans kw0_4
  replace kw0_5 := (T8.cell (p := ⟨w4_.heap.size, 5, none⟩) (by simp only []; omega)).trans kw0_5
  replace yx0 : w5_.heap.size < w8_.heap.size := by omega
  replace kx0_0 := (T8.cell (p := ⟨w5_.heap.size, 0, none⟩) (by simp only []; omega)).trans kx0_0
  replace kx0_1 := (T8.cell (p := ⟨w5_.heap.size, 1, none⟩) (by simp only []; omega)).trans kx0_1
  replace kx0_2 := (T8.cell (p := ⟨w5_.heap.size, 2, none⟩) (by simp only []; omega)).trans kx0_2
  replace kx0_3 := (T8.cell (p := ⟨w5_.heap.size, 3, none⟩) (by simp only []; omega)).trans kx0_3
  replace kx0_4 := (T8.cell (p := ⟨w5_.heap.size, 4, none⟩) (by simp only []; omega)).trans kx0_4
  replace kx0_5 := (T8.cell (p := ⟨w5_.heap.size, 5, none⟩) (by simp only []; omega)).trans kx0_5
  have yg0 : w7_.heap.size < w8_.heap.size := by omega
  have kg0_0 : w8_.cell? ⟨w7_.heap.size, 0, none⟩ = some ((.slice ac_7 ((runActs hd0 n1 x1).1).n cc_7)) := (hb8.cell (p := ⟨w7_.heap.size, 0, none⟩) (by simp)).trans (by simp)
  have kg0_1 : w8_.cell? ⟨w7_.heap.size, 1, none⟩ = some ((.slice am_7 ((runActs hd0 n1 x1).1).ms.length cm_7)) := (hb8.cell (p := ⟨w7_.heap.size, 1, none⟩) (by simp)).trans (by simp)
  have kg0_2 : w8_.cell? ⟨w7_.heap.size, 2, none⟩ = some ((.slice ao_7 ((runActs hd0 n1 x1).1).os.length co_7)) := (hb8.cell (p := ⟨w7_.heap.size, 2, none⟩) (by simp)).trans (by simp)
  have kg0_3 : w8_.cell? ⟨w7_.heap.size, 3, none⟩ = some ((.slice at_7 ((runActs hd0 n1 x1).1).ts.length ct_7)) := (hb8.cell (p := ⟨w7_.heap.size, 3, none⟩) (by simp)).trans (by simp)
  have kg0_4 : w8_.cell? ⟨w7_.heap.size, 4, none⟩ = some (.int .i64 ((runActs hd0 n1 x1).1).sent) := (hb8.cell (p := ⟨w7_.heap.size, 4, none⟩) (by simp)).trans (by simp)
  have kg0_5 : w8_.cell? ⟨w7_.heap.size, 5, none⟩ = some (.int .i64 ((runActs hd0 n1 x1).1).day) := (hb8.cell (p := ⟨w7_.heap.size, 5, none⟩) (by simp)).trans (by simp)
  replace O_w0 := O_w0.below T8
  replace O_w1 := O_w1.below T8
  replace O_x0 := O_x0.below T8
  replace O_x1 := O_x1.below T8
  replace O_g0 := O_g0.below T8
  replace O_g1 := O_g1.below T8
  have D8 := bnext D7 T8
  clear T8 hb8
  go_wp2_with fail
  refine (eqIntS_bel _ _ ((runActs hd0 n1 x1).2) ((runActs hd0 n1 x1).2) _ (O_g1.ints (by omega)) (O_w1.ints (by omega))).mono ?_
  rintro e w9_ ⟨rfl, hb9⟩
  have T9 := hb9
  have Z9 := hb9.size
  replace yp0 : w.heap.size < w9_.heap.size := by omega
  replace kp0_0 := (T9.cell (p := ⟨w.heap.size, 0, none⟩) (by simp only []; omega)).trans kp0_0
  replace kp0_1 := (T9.cell (p := ⟨w.heap.size, 1, none⟩) (by simp only []; omega)).trans kp0_1
  replace kp0_2 := (T9.cell (p := ⟨w.heap.size, 2, none⟩) (by simp only []; omega)).trans kp0_2
  replace kp0_3 := (T9.cell (p := ⟨w.heap.size, 3, none⟩) (by simp only []; omega)).trans kp0_3
  replace kp0_4 := (T9.cell (p := ⟨w.heap.size, 4, none⟩) (by simp only []; omega)).trans kp0_4
  replace kp0_5 := (T9.cell (p := ⟨w.heap.size, 5, none⟩) (by simp only []; omega)).trans kp0_5
  replace yw0 : w4_.heap.size < w9_.heap.size := by omega
  replace kw0_0 := (T9.cell (p := ⟨w4_.heap.size, 0, none⟩) (by simp only []; omega)).trans kw0_0
  replace kw0_1 := (T9.cell (p := ⟨w4_.heap.size, 1, none⟩) (by simp only []; omega)).trans kw0_1
  replace kw0_2 := (T9.cell (p := ⟨w4_.heap.size, 2, none⟩) (by simp only []; omega)).trans kw0_2
  replace kw0_3 := (T9.cell (p := ⟨w4_.heap.size, 3, none⟩) (by simp only []; omega)).trans kw0_3
  replace kw0_4 := (T9.cell (p := ⟨w4_.heap.size, 4, none⟩) (by simp only []; omega)).trans kw0_4
  replace kw0_5 := (T9.cell (p := ⟨w4_.heap.size, 5, none⟩) (by simp only []; omega)).trans kw0_5
  replace yx0 : w5_.heap.size < w9_.heap.size := by omega
  replace kx0_0 := (T9.cell (p := ⟨w5_.heap.size, 0, none⟩) (by simp only []; omega)).trans kx0_0
  replace kx0_1 := (T9.cell (p := ⟨w5_.heap.size, 1, none⟩) (by simp only []; omega)).trans kx0_1
  replace kx0_2 := (T9.cell (p := ⟨w5_.heap.size, 2, none⟩) (by simp only []; omega)).trans kx0_2
  replace kx0_3 := (T9.cell (p := ⟨w5_.heap.size, 3, none⟩) (by simp only []; omega)).trans kx0_3
  replace kx0_4 := (T9.cell (p := ⟨w5_.heap.size, 4, none⟩) (by simp only []; omega)).trans kx0_4
  replace kx0_5 := (T9.cell (p := ⟨w5_.heap.size, 5, none⟩) (by simp only []; omega)).trans kx0_5
  replace yg0 : w7_.heap.size < w9_.heap.size := by omega
  replace kg0_0 := (T9.cell (p := ⟨w7_.heap.size, 0, none⟩) (by simp only []; omega)).trans kg0_0
  replace kg0_1 := (T9.cell (p := ⟨w7_.heap.size, 1, none⟩) (by simp only []; omega)).trans kg0_1
  replace kg0_2 := (T9.cell (p := ⟨w7_.heap.size, 2, none⟩) (by simp only []; omega)).trans kg0_2
  replace kg0_3 := (T9.cell (p := ⟨w7_.heap.size, 3, none⟩) (by simp only []; omega)).trans kg0_3
  replace kg0_4 := (T9.cell (p := ⟨w7_.heap.size, 4, none⟩) (by simp only []; omega)).trans kg0_4
  replace kg0_5 := (T9.cell (p := ⟨w7_.heap.size, 5, none⟩) (by simp only []; omega)).trans kg0_5
  replace O_w0 := O_w0.below T9
  replace O_w1 := O_w1.below T9
  replace O_x0 := O_x0.below T9
  replace O_x1 := O_x1.below T9
  replace O_g0 := O_g0.below T9
  replace O_g1 := O_g1.below T9
  have D9 := bnext D8 T9
  clear T9 hb9
  go_wp2_with fail
  have RP_ := (h0.below D9)
  have RX_ := (O_x0.read hB0)
  have MK : Hid (∀ w', Below w9_.heap.size w9_ w' → w'.cell? ⟨w5_.heap.size, 0, none⟩ = some ((.slice (some ⟨gc_5, 0, none⟩) hd0.n hd0.n)) ∧ w'.cell? ⟨w5_.heap.size, 1, none⟩ = some ((.slice (some ⟨gm_5, 0, none⟩) hd0.ms.length hd0.ms.length)) ∧ w'.cell? ⟨w5_.heap.size, 2, none⟩ = some ((.slice (some ⟨go_5, 0, none⟩) hd0.os.length hd0.os.length)) ∧ w'.cell? ⟨w5_.heap.size, 3, none⟩ = some ((.slice (some ⟨gt_5, 0, none⟩) hd0.ts.length hd0.ts.length)) ∧ w'.cell? ⟨w5_.heap.size, 4, none⟩ = some (.int .i64 (hd0).sent) ∧ w'.cell? ⟨w5_.heap.size, 5, none⟩ = some (.int .i64 (hd0).day) ∧ w'.cell? ⟨w.heap.size, 0, none⟩ = some ((.slice adc0 hd0.n capc0)) ∧ w'.cell? ⟨w.heap.size, 1, none⟩ = some ((.slice adm0 hd0.ms.length capm0)) ∧ w'.cell? ⟨w.heap.size, 2, none⟩ = some ((.slice ado0 hd0.os.length capo0)) ∧ w'.cell? ⟨w.heap.size, 3, none⟩ = some ((.slice adt0 hd0.ts.length capt0)) ∧ w'.cell? ⟨w.heap.size, 4, none⟩ = some (.int .i64 (hd0).sent) ∧ w'.cell? ⟨w.heap.size, 5, none⟩ = some (.int .i64 (hd0).day) ∧ HouseR w' (.slice adc0 hd0.n capc0) (.slice adm0 hd0.ms.length capm0) (.slice ado0 hd0.os.length capo0) (.slice adt0 hd0.ts.length capt0) (hd0) ∧ HouseR w' (.slice (some ⟨gc_5, 0, none⟩) hd0.n hd0.n) (.slice (some ⟨gm_5, 0, none⟩) hd0.ms.length hd0.ms.length) (.slice (some ⟨go_5, 0, none⟩) hd0.os.length hd0.os.length) (.slice (some ⟨gt_5, 0, none⟩) hd0.ts.length hd0.ts.length) (hd0) ∧ Below w9_.heap.size w9_ w') :=
    fun w' hb => ⟨(hb.cell (p := ⟨w5_.heap.size, 0, none⟩) (by simp only []; omega)).trans kx0_0, (hb.cell (p := ⟨w5_.heap.size, 1, none⟩) (by simp only []; omega)).trans kx0_1, (hb.cell (p := ⟨w5_.heap.size, 2, none⟩) (by simp only []; omega)).trans kx0_2, (hb.cell (p := ⟨w5_.heap.size, 3, none⟩) (by simp only []; omega)).trans kx0_3, (hb.cell (p := ⟨w5_.heap.size, 4, none⟩) (by simp only []; omega)).trans kx0_4, (hb.cell (p := ⟨w5_.heap.size, 5, none⟩) (by simp only []; omega)).trans kx0_5, (hb.cell (p := ⟨w.heap.size, 0, none⟩) (by simp only []; omega)).trans kp0_0, (hb.cell (p := ⟨w.heap.size, 1, none⟩) (by simp only []; omega)).trans kp0_1, (hb.cell (p := ⟨w.heap.size, 2, none⟩) (by simp only []; omega)).trans kp0_2, (hb.cell (p := ⟨w.heap.size, 3, none⟩) (by simp only []; omega)).trans kp0_3, (hb.cell (p := ⟨w.heap.size, 4, none⟩) (by simp only []; omega)).trans kp0_4, (hb.cell (p := ⟨w.heap.size, 5, none⟩) (by simp only []; omega)).trans kp0_5, RP_.below hb, RX_.below hb, hb⟩
  clear RP_ RX_
  go_wp2_with fail
  go_region_held3 (fun w' => w'.cell? ⟨w5_.heap.size, 0, none⟩ = some ((.slice (some ⟨gc_5, 0, none⟩) hd0.n hd0.n)) ∧ w'.cell? ⟨w5_.heap.size, 1, none⟩ = some ((.slice (some ⟨gm_5, 0, none⟩) hd0.ms.length hd0.ms.length)) ∧ w'.cell? ⟨w5_.heap.size, 2, none⟩ = some ((.slice (some ⟨go_5, 0, none⟩) hd0.os.length hd0.os.length)) ∧ w'.cell? ⟨w5_.heap.size, 3, none⟩ = some ((.slice (some ⟨gt_5, 0, none⟩) hd0.ts.length hd0.ts.length)) ∧ w'.cell? ⟨w5_.heap.size, 4, none⟩ = some (.int .i64 (hd0).sent) ∧ w'.cell? ⟨w5_.heap.size, 5, none⟩ = some (.int .i64 (hd0).day) ∧ w'.cell? ⟨w.heap.size, 0, none⟩ = some ((.slice adc0 hd0.n capc0)) ∧ w'.cell? ⟨w.heap.size, 1, none⟩ = some ((.slice adm0 hd0.ms.length capm0)) ∧ w'.cell? ⟨w.heap.size, 2, none⟩ = some ((.slice ado0 hd0.os.length capo0)) ∧ w'.cell? ⟨w.heap.size, 3, none⟩ = some ((.slice adt0 hd0.ts.length capt0)) ∧ w'.cell? ⟨w.heap.size, 4, none⟩ = some (.int .i64 (hd0).sent) ∧ w'.cell? ⟨w.heap.size, 5, none⟩ = some (.int .i64 (hd0).day) ∧ HouseR w' (.slice adc0 hd0.n capc0) (.slice adm0 hd0.ms.length capm0) (.slice ado0 hd0.os.length capo0) (.slice adt0 hd0.ts.length capt0) (hd0) ∧ HouseR w' (.slice (some ⟨gc_5, 0, none⟩) hd0.n hd0.n) (.slice (some ⟨gm_5, 0, none⟩) hd0.ms.length hd0.ms.length) (.slice (some ⟨go_5, 0, none⟩) hd0.os.length hd0.os.length) (.slice (some ⟨gt_5, 0, none⟩) hd0.ts.length hd0.ts.length) (hd0) ∧ Below w9_.heap.size w9_ w')
    (first | exact MK.out _ (bdrew (bref _)) | (go_split_ands; exact MK.out _ (bnext (by assumption) hb10)) | (go_split_ands; exact MK.out _ (bnext (by assumption) hb11)))
    (first | (go_at_call 25; go_split_ands; refine (toHouse_any _ _ _ _ (hd0) _ (by assumption) hB0).mono ?_; rintro e w10_ ⟨gc_10, gm_10, go_10, gt_10, rfl, hO10, hb10⟩)
           | (go_at_call 28; go_split_ands; refine (eqHouse_same _ _ _ _ _ _ _ _ (hd0) _ (by assumption) ((hO10).read hB0)).mono ?_; rintro e w11_ ⟨rfl, hb11⟩))
  go_split_ands
  have hbq : Below w9_.heap.size w9_ w11_ := by assumption
  clear hb11
  have hb11 := hbq
  clear hbq MK
  have T11 := hb11
  have Z11 := hb11.size
  replace yp0 : w.heap.size < w11_.heap.size := by omega
  replace kp0_0 := (T11.cell (p := ⟨w.heap.size, 0, none⟩) (by simp only []; omega)).trans kp0_0
  replace kp0_1 := (T11.cell (p := ⟨w.heap.size, 1, none⟩) (by simp only []; omega)).trans kp0_1
  replace kp0_2 := (T11.cell (p := ⟨w.heap.size, 2, none⟩) (by simp only []; omega)).trans kp0_2
  replace kp0_3 := (T11.cell (p := ⟨w.heap.size, 3, none⟩) (by simp only []; omega)).trans kp0_3
  replace kp0_4 := (T11.cell (p := ⟨w.heap.size, 4, none⟩) (by simp only []; omega)).trans kp0_4
  replace kp0_5 := (T11.cell (p := ⟨w.heap.size, 5, none⟩) (by simp only []; omega)).trans kp0_5
  replace yw0 : w4_.heap.size < w11_.heap.size := by omega
  replace kw0_0 := (T11.cell (p := ⟨w4_.heap.size, 0, none⟩) (by simp only []; omega)).trans kw0_0
  replace kw0_1 := (T11.cell (p := ⟨w4_.heap.size, 1, none⟩) (by simp only []; omega)).trans kw0_1
  replace kw0_2 := (T11.cell (p := ⟨w4_.heap.size, 2, none⟩) (by simp only []; omega)).trans kw0_2
  replace kw0_3 := (T11.cell (p := ⟨w4_.heap.size, 3, none⟩) (by simp only []; omega)).trans kw0_3
  replace kw0_4 := (T11.cell (p := ⟨w4_.heap.size, 4, none⟩) (by simp only []; omega)).trans kw0_4
  replace kw0_5 := (T11.cell (p := ⟨w4_.heap.size, 5, none⟩) (by simp only []; omega)).trans kw0_5
  replace yx0 : w5_.heap.size < w11_.heap.size := by omega
  replace kx0_0 := (T11.cell (p := ⟨w5_.heap.size, 0, none⟩) (by simp only []; omega)).trans kx0_0
  replace kx0_1 := (T11.cell (p := ⟨w5_.heap.size, 1, none⟩) (by simp only []; omega)).trans kx0_1
  replace kx0_2 := (T11.cell (p := ⟨w5_.heap.size, 2, none⟩) (by simp only []; omega)).trans kx0_2
  replace kx0_3 := (T11.cell (p := ⟨w5_.heap.size, 3, none⟩) (by simp only []; omega)).trans kx0_3
  replace kx0_4 := (T11.cell (p := ⟨w5_.heap.size, 4, none⟩) (by simp only []; omega)).trans kx0_4
  replace kx0_5 := (T11.cell (p := ⟨w5_.heap.size, 5, none⟩) (by simp only []; omega)).trans kx0_5
  replace yg0 : w7_.heap.size < w11_.heap.size := by omega
  replace kg0_0 := (T11.cell (p := ⟨w7_.heap.size, 0, none⟩) (by simp only []; omega)).trans kg0_0
  replace kg0_1 := (T11.cell (p := ⟨w7_.heap.size, 1, none⟩) (by simp only []; omega)).trans kg0_1
  replace kg0_2 := (T11.cell (p := ⟨w7_.heap.size, 2, none⟩) (by simp only []; omega)).trans kg0_2
  replace kg0_3 := (T11.cell (p := ⟨w7_.heap.size, 3, none⟩) (by simp only []; omega)).trans kg0_3
  replace kg0_4 := (T11.cell (p := ⟨w7_.heap.size, 4, none⟩) (by simp only []; omega)).trans kg0_4
  replace kg0_5 := (T11.cell (p := ⟨w7_.heap.size, 5, none⟩) (by simp only []; omega)).trans kg0_5
  replace O_w0 := O_w0.below T11
  replace O_w1 := O_w1.below T11
  replace O_x0 := O_x0.below T11
  replace O_x1 := O_x1.below T11
  replace O_g0 := O_g0.below T11
  replace O_g1 := O_g1.below T11
  have D11 := bnext D9 T11
  clear T11 hb11
  go_wp2_with fail
  refine (toActS_any _ n1 x1 _ (h1.below D11) (by omega)).mono ?_
  rintro e w12_ ⟨rfl, hO12, hb12⟩
  have T12 := hb12
  have Z12 := hb12.size
  replace yp0 : w.heap.size < w12_.heap.size := by omega
  replace kp0_0 := (T12.cell (p := ⟨w.heap.size, 0, none⟩) (by simp only []; omega)).trans kp0_0
  replace kp0_1 := (T12.cell (p := ⟨w.heap.size, 1, none⟩) (by simp only []; omega)).trans kp0_1
  replace kp0_2 := (T12.cell (p := ⟨w.heap.size, 2, none⟩) (by simp only []; omega)).trans kp0_2
  replace kp0_3 := (T12.cell (p := ⟨w.heap.size, 3, none⟩) (by simp only []; omega)).trans kp0_3
  replace kp0_4 := (T12.cell (p := ⟨w.heap.size, 4, none⟩) (by simp only []; omega)).trans kp0_4
  replace kp0_5 := (T12.cell (p := ⟨w.heap.size, 5, none⟩) (by simp only []; omega)).trans kp0_5
  replace yw0 : w4_.heap.size < w12_.heap.size := by omega
  replace kw0_0 := (T12.cell (p := ⟨w4_.heap.size, 0, none⟩) (by simp only []; omega)).trans kw0_0
  replace kw0_1 := (T12.cell (p := ⟨w4_.heap.size, 1, none⟩) (by simp only []; omega)).trans kw0_1
  replace kw0_2 := (T12.cell (p := ⟨w4_.heap.size, 2, none⟩) (by simp only []; omega)).trans kw0_2
  replace kw0_3 := (T12.cell (p := ⟨w4_.heap.size, 3, none⟩) (by simp only []; omega)).trans kw0_3
  replace kw0_4 := (T12.cell (p := ⟨w4_.heap.size, 4, none⟩) (by simp only []; omega)).trans kw0_4
  replace kw0_5 := (T12.cell (p := ⟨w4_.heap.size, 5, none⟩) (by simp only []; omega)).trans kw0_5
  replace yx0 : w5_.heap.size < w12_.heap.size := by omega
  replace kx0_0 := (T12.cell (p := ⟨w5_.heap.size, 0, none⟩) (by simp only []; omega)).trans kx0_0
  replace kx0_1 := (T12.cell (p := ⟨w5_.heap.size, 1, none⟩) (by simp only []; omega)).trans kx0_1
  replace kx0_2 := (T12.cell (p := ⟨w5_.heap.size, 2, none⟩) (by simp only []; omega)).trans kx0_2
  replace kx0_3 := (T12.cell (p := ⟨w5_.heap.size, 3, none⟩) (by simp only []; omega)).trans kx0_3
  replace kx0_4 := (T12.cell (p := ⟨w5_.heap.size, 4, none⟩) (by simp only []; omega)).trans kx0_4
  replace kx0_5 := (T12.cell (p := ⟨w5_.heap.size, 5, none⟩) (by simp only []; omega)).trans kx0_5
  replace yg0 : w7_.heap.size < w12_.heap.size := by omega
  replace kg0_0 := (T12.cell (p := ⟨w7_.heap.size, 0, none⟩) (by simp only []; omega)).trans kg0_0
  replace kg0_1 := (T12.cell (p := ⟨w7_.heap.size, 1, none⟩) (by simp only []; omega)).trans kg0_1
  replace kg0_2 := (T12.cell (p := ⟨w7_.heap.size, 2, none⟩) (by simp only []; omega)).trans kg0_2
  replace kg0_3 := (T12.cell (p := ⟨w7_.heap.size, 3, none⟩) (by simp only []; omega)).trans kg0_3
  replace kg0_4 := (T12.cell (p := ⟨w7_.heap.size, 4, none⟩) (by simp only []; omega)).trans kg0_4
  replace kg0_5 := (T12.cell (p := ⟨w7_.heap.size, 5, none⟩) (by simp only []; omega)).trans kg0_5
  replace O_w0 := O_w0.below T12
  replace O_w1 := O_w1.below T12
  replace O_x0 := O_x0.below T12
  replace O_x1 := O_x1.below T12
  replace O_g0 := O_g0.below T12
  replace O_g1 := O_g1.below T12
  have D12 := bnext D11 T12
  have O_t := RowO.of hO12
  clear hO12
  clear T12 hb12
  go_wp2_with fail
  refine (eqActS_any _ _ n1 n1 (x1) (x1) _ (O_x1.recs (by omega)) (O_t.recs (by omega))).mono ?_
  rintro e w13_ ⟨rfl, hb13⟩
  have T13 := hb13
  have Z13 := hb13.size
  replace yp0 : w.heap.size < w13_.heap.size := by omega
  replace kp0_0 := (T13.cell (p := ⟨w.heap.size, 0, none⟩) (by simp only []; omega)).trans kp0_0
  replace kp0_1 := (T13.cell (p := ⟨w.heap.size, 1, none⟩) (by simp only []; omega)).trans kp0_1
  replace kp0_2 := (T13.cell (p := ⟨w.heap.size, 2, none⟩) (by simp only []; omega)).trans kp0_2
  replace kp0_3 := (T13.cell (p := ⟨w.heap.size, 3, none⟩) (by simp only []; omega)).trans kp0_3
  replace kp0_4 := (T13.cell (p := ⟨w.heap.size, 4, none⟩) (by simp only []; omega)).trans kp0_4
  replace kp0_5 := (T13.cell (p := ⟨w.heap.size, 5, none⟩) (by simp only []; omega)).trans kp0_5
  replace yw0 : w4_.heap.size < w13_.heap.size := by omega
  replace kw0_0 := (T13.cell (p := ⟨w4_.heap.size, 0, none⟩) (by simp only []; omega)).trans kw0_0
  replace kw0_1 := (T13.cell (p := ⟨w4_.heap.size, 1, none⟩) (by simp only []; omega)).trans kw0_1
  replace kw0_2 := (T13.cell (p := ⟨w4_.heap.size, 2, none⟩) (by simp only []; omega)).trans kw0_2
  replace kw0_3 := (T13.cell (p := ⟨w4_.heap.size, 3, none⟩) (by simp only []; omega)).trans kw0_3
  replace kw0_4 := (T13.cell (p := ⟨w4_.heap.size, 4, none⟩) (by simp only []; omega)).trans kw0_4
  replace kw0_5 := (T13.cell (p := ⟨w4_.heap.size, 5, none⟩) (by simp only []; omega)).trans kw0_5
  replace yx0 : w5_.heap.size < w13_.heap.size := by omega
  replace kx0_0 := (T13.cell (p := ⟨w5_.heap.size, 0, none⟩) (by simp only []; omega)).trans kx0_0
  replace kx0_1 := (T13.cell (p := ⟨w5_.heap.size, 1, none⟩) (by simp only []; omega)).trans kx0_1
  replace kx0_2 := (T13.cell (p := ⟨w5_.heap.size, 2, none⟩) (by simp only []; omega)).trans kx0_2
  replace kx0_3 := (T13.cell (p := ⟨w5_.heap.size, 3, none⟩) (by simp only []; omega)).trans kx0_3
  replace kx0_4 := (T13.cell (p := ⟨w5_.heap.size, 4, none⟩) (by simp only []; omega)).trans kx0_4
  replace kx0_5 := (T13.cell (p := ⟨w5_.heap.size, 5, none⟩) (by simp only []; omega)).trans kx0_5
  replace yg0 : w7_.heap.size < w13_.heap.size := by omega
  replace kg0_0 := (T13.cell (p := ⟨w7_.heap.size, 0, none⟩) (by simp only []; omega)).trans kg0_0
  replace kg0_1 := (T13.cell (p := ⟨w7_.heap.size, 1, none⟩) (by simp only []; omega)).trans kg0_1
  replace kg0_2 := (T13.cell (p := ⟨w7_.heap.size, 2, none⟩) (by simp only []; omega)).trans kg0_2
  replace kg0_3 := (T13.cell (p := ⟨w7_.heap.size, 3, none⟩) (by simp only []; omega)).trans kg0_3
  replace kg0_4 := (T13.cell (p := ⟨w7_.heap.size, 4, none⟩) (by simp only []; omega)).trans kg0_4
  replace kg0_5 := (T13.cell (p := ⟨w7_.heap.size, 5, none⟩) (by simp only []; omega)).trans kg0_5
  replace O_w0 := O_w0.below T13
  replace O_w1 := O_w1.below T13
  replace O_x0 := O_x0.below T13
  replace O_x1 := O_x1.below T13
  replace O_g0 := O_g0.below T13
  replace O_g1 := O_g1.below T13
  replace O_t := O_t.below T13
  have D13 := bnext D12 T13
  clear T13 hb13
  clear O_t
  go_wp2_with fail
  refine (markHouse_any _ _ _ _ (hd0) (1) _ _ _ O_x0 hB0 (by omega) (by omega)).mono ?_
  rintro e w14_ ⟨rfl, hO14, hb14⟩
  have T14 := hb14
  have Z14 := T14.size
  replace yp0 : w.heap.size < w14_.heap.size := by omega
  replace kp0_0 := (World.cell?_of_block (T14.block w.heap.size (by omega) (by omega))).trans kp0_0
  replace kp0_1 := (World.cell?_of_block (T14.block w.heap.size (by omega) (by omega))).trans kp0_1
  replace kp0_2 := (World.cell?_of_block (T14.block w.heap.size (by omega) (by omega))).trans kp0_2
  replace kp0_3 := (World.cell?_of_block (T14.block w.heap.size (by omega) (by omega))).trans kp0_3
  replace kp0_4 := (World.cell?_of_block (T14.block w.heap.size (by omega) (by omega))).trans kp0_4
  replace kp0_5 := (World.cell?_of_block (T14.block w.heap.size (by omega) (by omega))).trans kp0_5
  replace yw0 : w4_.heap.size < w14_.heap.size := by omega
  replace kw0_0 := (World.cell?_of_block (T14.block w4_.heap.size (by omega) (by omega))).trans kw0_0
  replace kw0_1 := (World.cell?_of_block (T14.block w4_.heap.size (by omega) (by omega))).trans kw0_1
  replace kw0_2 := (World.cell?_of_block (T14.block w4_.heap.size (by omega) (by omega))).trans kw0_2
  replace kw0_3 := (World.cell?_of_block (T14.block w4_.heap.size (by omega) (by omega))).trans kw0_3
  replace kw0_4 := (World.cell?_of_block (T14.block w4_.heap.size (by omega) (by omega))).trans kw0_4
  replace kw0_5 := (World.cell?_of_block (T14.block w4_.heap.size (by omega) (by omega))).trans kw0_5
  replace yx0 : w5_.heap.size < w14_.heap.size := by omega
  replace kx0_0 := (World.cell?_of_block (T14.block w5_.heap.size (by omega) (by omega))).trans kx0_0
  replace kx0_1 := (World.cell?_of_block (T14.block w5_.heap.size (by omega) (by omega))).trans kx0_1
  replace kx0_2 := (World.cell?_of_block (T14.block w5_.heap.size (by omega) (by omega))).trans kx0_2
  replace kx0_3 := (World.cell?_of_block (T14.block w5_.heap.size (by omega) (by omega))).trans kx0_3
  replace kx0_4 := (World.cell?_of_block (T14.block w5_.heap.size (by omega) (by omega))).trans kx0_4
  replace kx0_5 := (World.cell?_of_block (T14.block w5_.heap.size (by omega) (by omega))).trans kx0_5
  replace yg0 : w7_.heap.size < w14_.heap.size := by omega
  replace kg0_0 := (World.cell?_of_block (T14.block w7_.heap.size (by omega) (by omega))).trans kg0_0
  replace kg0_1 := (World.cell?_of_block (T14.block w7_.heap.size (by omega) (by omega))).trans kg0_1
  replace kg0_2 := (World.cell?_of_block (T14.block w7_.heap.size (by omega) (by omega))).trans kg0_2
  replace kg0_3 := (World.cell?_of_block (T14.block w7_.heap.size (by omega) (by omega))).trans kg0_3
  replace kg0_4 := (World.cell?_of_block (T14.block w7_.heap.size (by omega) (by omega))).trans kg0_4
  replace kg0_5 := (World.cell?_of_block (T14.block w7_.heap.size (by omega) (by omega))).trans kg0_5
  replace O_w0 := O_w0.only T14 (by unfold Off; omega)
  replace O_w1 := O_w1.only T14 (by unfold Off; omega)
  replace O_x1 := O_x1.only T14 (by unfold Off; omega)
  replace O_g0 := O_g0.only T14 (by unfold Off; omega)
  replace O_g1 := O_g1.only T14 (by unfold Off; omega)
  have D14 := Only.below D13 T14 (by omega)
  replace O_x0 := hO14
  clear hO14
  clear T14 hb14
  go_wp2_with fail
  refine (markActS_o _ n1 (x1) (1 + ((hd0).bulk : Int)) _ _ _ _ O_x1 (by omega) (by omega) (by omega)).mono ?_
  rintro e w15_ ⟨rfl, hO15, hb15⟩
  have T15 := hb15
  have Z15 := T15.size
  replace yp0 : w.heap.size < w15_.heap.size := by omega
  replace kp0_0 := (World.cell?_of_block (T15.block w.heap.size (by omega) (by omega))).trans kp0_0
  replace kp0_1 := (World.cell?_of_block (T15.block w.heap.size (by omega) (by omega))).trans kp0_1
  replace kp0_2 := (World.cell?_of_block (T15.block w.heap.size (by omega) (by omega))).trans kp0_2
  replace kp0_3 := (World.cell?_of_block (T15.block w.heap.size (by omega) (by omega))).trans kp0_3
  replace kp0_4 := (World.cell?_of_block (T15.block w.heap.size (by omega) (by omega))).trans kp0_4
  replace kp0_5 := (World.cell?_of_block (T15.block w.heap.size (by omega) (by omega))).trans kp0_5
  replace yw0 : w4_.heap.size < w15_.heap.size := by omega
  replace kw0_0 := (World.cell?_of_block (T15.block w4_.heap.size (by omega) (by omega))).trans kw0_0
  replace kw0_1 := (World.cell?_of_block (T15.block w4_.heap.size (by omega) (by omega))).trans kw0_1
  replace kw0_2 := (World.cell?_of_block (T15.block w4_.heap.size (by omega) (by omega))).trans kw0_2
  replace kw0_3 := (World.cell?_of_block (T15.block w4_.heap.size (by omega) (by omega))).trans kw0_3
  replace kw0_4 := (World.cell?_of_block (T15.block w4_.heap.size (by omega) (by omega))).trans kw0_4
  replace kw0_5 := (World.cell?_of_block (T15.block w4_.heap.size (by omega) (by omega))).trans kw0_5
  replace yx0 : w5_.heap.size < w15_.heap.size := by omega
  replace kx0_0 := (World.cell?_of_block (T15.block w5_.heap.size (by omega) (by omega))).trans kx0_0
  replace kx0_1 := (World.cell?_of_block (T15.block w5_.heap.size (by omega) (by omega))).trans kx0_1
  replace kx0_2 := (World.cell?_of_block (T15.block w5_.heap.size (by omega) (by omega))).trans kx0_2
  replace kx0_3 := (World.cell?_of_block (T15.block w5_.heap.size (by omega) (by omega))).trans kx0_3
  replace kx0_4 := (World.cell?_of_block (T15.block w5_.heap.size (by omega) (by omega))).trans kx0_4
  replace kx0_5 := (World.cell?_of_block (T15.block w5_.heap.size (by omega) (by omega))).trans kx0_5
  replace yg0 : w7_.heap.size < w15_.heap.size := by omega
  replace kg0_0 := (World.cell?_of_block (T15.block w7_.heap.size (by omega) (by omega))).trans kg0_0
  replace kg0_1 := (World.cell?_of_block (T15.block w7_.heap.size (by omega) (by omega))).trans kg0_1
  replace kg0_2 := (World.cell?_of_block (T15.block w7_.heap.size (by omega) (by omega))).trans kg0_2
  replace kg0_3 := (World.cell?_of_block (T15.block w7_.heap.size (by omega) (by omega))).trans kg0_3
  replace kg0_4 := (World.cell?_of_block (T15.block w7_.heap.size (by omega) (by omega))).trans kg0_4
  replace kg0_5 := (World.cell?_of_block (T15.block w7_.heap.size (by omega) (by omega))).trans kg0_5
  replace O_w0 := O_w0.only T15 (by unfold Off; omega)
  replace O_w1 := O_w1.only T15 (by unfold Off; omega)
  replace O_x0 := O_x0.only T15 (by unfold Off; omega)
  replace O_g0 := O_g0.only T15 (by unfold Off; omega)
  replace O_g1 := O_g1.only T15 (by unfold Off; omega)
  have D15 := Only.below D14 T15 (by omega)
  replace O_x1 := hO15
  clear hO15
  clear T15 hb15
  go_wp2_with fail
  refine (eqHouse_same _ _ _ _ _ _ _ _ ((runActs hd0 n1 x1).1) _ (O_g0.read hN) (O_w0.read hN)).mono ?_
  rintro e w16_ ⟨rfl, hb16⟩
  have T16 := hb16
  have Z16 := hb16.size
  replace yp0 : w.heap.size < w16_.heap.size := by omega
  replace kp0_0 := (T16.cell (p := ⟨w.heap.size, 0, none⟩) (by simp only []; omega)).trans kp0_0
  replace kp0_1 := (T16.cell (p := ⟨w.heap.size, 1, none⟩) (by simp only []; omega)).trans kp0_1
  replace kp0_2 := (T16.cell (p := ⟨w.heap.size, 2, none⟩) (by simp only []; omega)).trans kp0_2
  replace kp0_3 := (T16.cell (p := ⟨w.heap.size, 3, none⟩) (by simp only []; omega)).trans kp0_3
  replace kp0_4 := (T16.cell (p := ⟨w.heap.size, 4, none⟩) (by simp only []; omega)).trans kp0_4
  replace kp0_5 := (T16.cell (p := ⟨w.heap.size, 5, none⟩) (by simp only []; omega)).trans kp0_5
  replace yw0 : w4_.heap.size < w16_.heap.size := by omega
  replace kw0_0 := (T16.cell (p := ⟨w4_.heap.size, 0, none⟩) (by simp only []; omega)).trans kw0_0
  replace kw0_1 := (T16.cell (p := ⟨w4_.heap.size, 1, none⟩) (by simp only []; omega)).trans kw0_1
  replace kw0_2 := (T16.cell (p := ⟨w4_.heap.size, 2, none⟩) (by simp only []; omega)).trans kw0_2
  replace kw0_3 := (T16.cell (p := ⟨w4_.heap.size, 3, none⟩) (by simp only []; omega)).trans kw0_3
  replace kw0_4 := (T16.cell (p := ⟨w4_.heap.size, 4, none⟩) (by simp only []; omega)).trans kw0_4
  replace kw0_5 := (T16.cell (p := ⟨w4_.heap.size, 5, none⟩) (by simp only []; omega)).trans kw0_5
  replace yx0 : w5_.heap.size < w16_.heap.size := by omega
  replace kx0_0 := (T16.cell (p := ⟨w5_.heap.size, 0, none⟩) (by simp only []; omega)).trans kx0_0
  replace kx0_1 := (T16.cell (p := ⟨w5_.heap.size, 1, none⟩) (by simp only []; omega)).trans kx0_1
  replace kx0_2 := (T16.cell (p := ⟨w5_.heap.size, 2, none⟩) (by simp only []; omega)).trans kx0_2
  replace kx0_3 := (T16.cell (p := ⟨w5_.heap.size, 3, none⟩) (by simp only []; omega)).trans kx0_3
  replace kx0_4 := (T16.cell (p := ⟨w5_.heap.size, 4, none⟩) (by simp only []; omega)).trans kx0_4
  replace kx0_5 := (T16.cell (p := ⟨w5_.heap.size, 5, none⟩) (by simp only []; omega)).trans kx0_5
  replace yg0 : w7_.heap.size < w16_.heap.size := by omega
  replace kg0_0 := (T16.cell (p := ⟨w7_.heap.size, 0, none⟩) (by simp only []; omega)).trans kg0_0
  replace kg0_1 := (T16.cell (p := ⟨w7_.heap.size, 1, none⟩) (by simp only []; omega)).trans kg0_1
  replace kg0_2 := (T16.cell (p := ⟨w7_.heap.size, 2, none⟩) (by simp only []; omega)).trans kg0_2
  replace kg0_3 := (T16.cell (p := ⟨w7_.heap.size, 3, none⟩) (by simp only []; omega)).trans kg0_3
  replace kg0_4 := (T16.cell (p := ⟨w7_.heap.size, 4, none⟩) (by simp only []; omega)).trans kg0_4
  replace kg0_5 := (T16.cell (p := ⟨w7_.heap.size, 5, none⟩) (by simp only []; omega)).trans kg0_5
  replace O_w0 := O_w0.below T16
  replace O_w1 := O_w1.below T16
  replace O_x0 := O_x0.below T16
  replace O_x1 := O_x1.below T16
  replace O_g0 := O_g0.below T16
  replace O_g1 := O_g1.below T16
  have D16 := bnext D15 T16
  clear T16 hb16
  go_wp2_with fail
  refine (eqIntS_bel _ _ ((runActs hd0 n1 x1).2) ((runActs hd0 n1 x1).2) _ (O_g1.ints (by omega)) (O_w1.ints (by omega))).mono ?_
  rintro e w17_ ⟨rfl, hb17⟩
  have T17 := hb17
  have Z17 := hb17.size
  replace yp0 : w.heap.size < w17_.heap.size := by omega
  replace kp0_0 := (T17.cell (p := ⟨w.heap.size, 0, none⟩) (by simp only []; omega)).trans kp0_0
  replace kp0_1 := (T17.cell (p := ⟨w.heap.size, 1, none⟩) (by simp only []; omega)).trans kp0_1
  replace kp0_2 := (T17.cell (p := ⟨w.heap.size, 2, none⟩) (by simp only []; omega)).trans kp0_2
  replace kp0_3 := (T17.cell (p := ⟨w.heap.size, 3, none⟩) (by simp only []; omega)).trans kp0_3
  replace kp0_4 := (T17.cell (p := ⟨w.heap.size, 4, none⟩) (by simp only []; omega)).trans kp0_4
  replace kp0_5 := (T17.cell (p := ⟨w.heap.size, 5, none⟩) (by simp only []; omega)).trans kp0_5
  replace yw0 : w4_.heap.size < w17_.heap.size := by omega
  replace kw0_0 := (T17.cell (p := ⟨w4_.heap.size, 0, none⟩) (by simp only []; omega)).trans kw0_0
  replace kw0_1 := (T17.cell (p := ⟨w4_.heap.size, 1, none⟩) (by simp only []; omega)).trans kw0_1
  replace kw0_2 := (T17.cell (p := ⟨w4_.heap.size, 2, none⟩) (by simp only []; omega)).trans kw0_2
  replace kw0_3 := (T17.cell (p := ⟨w4_.heap.size, 3, none⟩) (by simp only []; omega)).trans kw0_3
  replace kw0_4 := (T17.cell (p := ⟨w4_.heap.size, 4, none⟩) (by simp only []; omega)).trans kw0_4
  replace kw0_5 := (T17.cell (p := ⟨w4_.heap.size, 5, none⟩) (by simp only []; omega)).trans kw0_5
  replace yx0 : w5_.heap.size < w17_.heap.size := by omega
  replace kx0_0 := (T17.cell (p := ⟨w5_.heap.size, 0, none⟩) (by simp only []; omega)).trans kx0_0
  replace kx0_1 := (T17.cell (p := ⟨w5_.heap.size, 1, none⟩) (by simp only []; omega)).trans kx0_1
  replace kx0_2 := (T17.cell (p := ⟨w5_.heap.size, 2, none⟩) (by simp only []; omega)).trans kx0_2
  replace kx0_3 := (T17.cell (p := ⟨w5_.heap.size, 3, none⟩) (by simp only []; omega)).trans kx0_3
  replace kx0_4 := (T17.cell (p := ⟨w5_.heap.size, 4, none⟩) (by simp only []; omega)).trans kx0_4
  replace kx0_5 := (T17.cell (p := ⟨w5_.heap.size, 5, none⟩) (by simp only []; omega)).trans kx0_5
  replace yg0 : w7_.heap.size < w17_.heap.size := by omega
  replace kg0_0 := (T17.cell (p := ⟨w7_.heap.size, 0, none⟩) (by simp only []; omega)).trans kg0_0
  replace kg0_1 := (T17.cell (p := ⟨w7_.heap.size, 1, none⟩) (by simp only []; omega)).trans kg0_1
  replace kg0_2 := (T17.cell (p := ⟨w7_.heap.size, 2, none⟩) (by simp only []; omega)).trans kg0_2
  replace kg0_3 := (T17.cell (p := ⟨w7_.heap.size, 3, none⟩) (by simp only []; omega)).trans kg0_3
  replace kg0_4 := (T17.cell (p := ⟨w7_.heap.size, 4, none⟩) (by simp only []; omega)).trans kg0_4
  replace kg0_5 := (T17.cell (p := ⟨w7_.heap.size, 5, none⟩) (by simp only []; omega)).trans kg0_5
  replace O_w0 := O_w0.below T17
  replace O_w1 := O_w1.below T17
  replace O_x0 := O_x0.below T17
  replace O_x1 := O_x1.below T17
  replace O_g0 := O_g0.below T17
  replace O_g1 := O_g1.below T17
  have D17 := bnext D16 T17
  clear T17 hb17
  go_wp2_with fail
  clear O_x0
  clear kx0_0 kx0_1 kx0_2 kx0_3 kx0_4 kx0_5 yx0
  clear O_x1
  refine (markHouse_i _ _ _ _ _ ((runActs hd0 n1 x1).1) _ (1) _ _ _ _ _ O_g0 hN (by omega) (by omega) O_g1 oc_7 om_7 oo_7 ot_7).mono ?_
  rintro e w18_ ⟨rfl, hO18, hP18, hb18⟩
  have T18 := hb18
  have Z18 := T18.size
  replace yp0 : w.heap.size < w18_.heap.size := by omega
  replace kp0_0 := (World.cell?_of_block (T18.block w.heap.size (by omega) (by omega))).trans kp0_0
  replace kp0_1 := (World.cell?_of_block (T18.block w.heap.size (by omega) (by omega))).trans kp0_1
  replace kp0_2 := (World.cell?_of_block (T18.block w.heap.size (by omega) (by omega))).trans kp0_2
  replace kp0_3 := (World.cell?_of_block (T18.block w.heap.size (by omega) (by omega))).trans kp0_3
  replace kp0_4 := (World.cell?_of_block (T18.block w.heap.size (by omega) (by omega))).trans kp0_4
  replace kp0_5 := (World.cell?_of_block (T18.block w.heap.size (by omega) (by omega))).trans kp0_5
  replace yw0 : w4_.heap.size < w18_.heap.size := by omega
  replace kw0_0 := (World.cell?_of_block (T18.block w4_.heap.size (by omega) (by omega))).trans kw0_0
  replace kw0_1 := (World.cell?_of_block (T18.block w4_.heap.size (by omega) (by omega))).trans kw0_1
  replace kw0_2 := (World.cell?_of_block (T18.block w4_.heap.size (by omega) (by omega))).trans kw0_2
  replace kw0_3 := (World.cell?_of_block (T18.block w4_.heap.size (by omega) (by omega))).trans kw0_3
  replace kw0_4 := (World.cell?_of_block (T18.block w4_.heap.size (by omega) (by omega))).trans kw0_4
  replace kw0_5 := (World.cell?_of_block (T18.block w4_.heap.size (by omega) (by omega))).trans kw0_5
  replace yg0 : w7_.heap.size < w18_.heap.size := by omega
  replace kg0_0 := (World.cell?_of_block (T18.block w7_.heap.size (by omega) (by omega))).trans kg0_0
  replace kg0_1 := (World.cell?_of_block (T18.block w7_.heap.size (by omega) (by omega))).trans kg0_1
  replace kg0_2 := (World.cell?_of_block (T18.block w7_.heap.size (by omega) (by omega))).trans kg0_2
  replace kg0_3 := (World.cell?_of_block (T18.block w7_.heap.size (by omega) (by omega))).trans kg0_3
  replace kg0_4 := (World.cell?_of_block (T18.block w7_.heap.size (by omega) (by omega))).trans kg0_4
  replace kg0_5 := (World.cell?_of_block (T18.block w7_.heap.size (by omega) (by omega))).trans kg0_5
  replace O_w0 := O_w0.only T18 (by unfold Off; omega)
  replace O_w1 := O_w1.only T18 (by unfold Off; omega)
  have D18 := Only.below D17 T18 (by omega)
  replace O_g0 := hO18
  replace O_g1 := hP18
  clear hO18 hP18
  clear T18 hb18
  go_wp2_with fail
  refine (markIntS_o _ ((runActs hd0 n1 x1).2).length ((runActs hd0 n1 x1).2) (1 + (((runActs hd0 n1 x1).1).bulk : Int)) _ _ _ _ O_g1 (by omega) (by omega) (by omega)).mono ?_
  rintro e w19_ ⟨rfl, hO19, hb19⟩
  have T19 := hb19
  have Z19 := T19.size
  replace yp0 : w.heap.size < w19_.heap.size := by omega
  replace kp0_0 := (World.cell?_of_block (T19.block w.heap.size (by omega) (by omega))).trans kp0_0
  replace kp0_1 := (World.cell?_of_block (T19.block w.heap.size (by omega) (by omega))).trans kp0_1
  replace kp0_2 := (World.cell?_of_block (T19.block w.heap.size (by omega) (by omega))).trans kp0_2
  replace kp0_3 := (World.cell?_of_block (T19.block w.heap.size (by omega) (by omega))).trans kp0_3
  replace kp0_4 := (World.cell?_of_block (T19.block w.heap.size (by omega) (by omega))).trans kp0_4
  replace kp0_5 := (World.cell?_of_block (T19.block w.heap.size (by omega) (by omega))).trans kp0_5
  replace yw0 : w4_.heap.size < w19_.heap.size := by omega
  replace kw0_0 := (World.cell?_of_block (T19.block w4_.heap.size (by omega) (by omega))).trans kw0_0
  replace kw0_1 := (World.cell?_of_block (T19.block w4_.heap.size (by omega) (by omega))).trans kw0_1
  replace kw0_2 := (World.cell?_of_block (T19.block w4_.heap.size (by omega) (by omega))).trans kw0_2
  replace kw0_3 := (World.cell?_of_block (T19.block w4_.heap.size (by omega) (by omega))).trans kw0_3
  replace kw0_4 := (World.cell?_of_block (T19.block w4_.heap.size (by omega) (by omega))).trans kw0_4
  replace kw0_5 := (World.cell?_of_block (T19.block w4_.heap.size (by omega) (by omega))).trans kw0_5
  replace yg0 : w7_.heap.size < w19_.heap.size := by omega
  replace kg0_0 := (World.cell?_of_block (T19.block w7_.heap.size (by omega) (by omega))).trans kg0_0
  replace kg0_1 := (World.cell?_of_block (T19.block w7_.heap.size (by omega) (by omega))).trans kg0_1
  replace kg0_2 := (World.cell?_of_block (T19.block w7_.heap.size (by omega) (by omega))).trans kg0_2
  replace kg0_3 := (World.cell?_of_block (T19.block w7_.heap.size (by omega) (by omega))).trans kg0_3
  replace kg0_4 := (World.cell?_of_block (T19.block w7_.heap.size (by omega) (by omega))).trans kg0_4
  replace kg0_5 := (World.cell?_of_block (T19.block w7_.heap.size (by omega) (by omega))).trans kg0_5
  replace O_w0 := O_w0.only T19 (by unfold Off; omega)
  replace O_w1 := O_w1.only T19 (by unfold Off; omega)
  have D19 := Only.below D18 T19 (by omega)
  replace O_g0 := O_g0.out T19 oc_7 om_7 oo_7 ot_7
  replace O_g1 := hO19
  clear hO19
  clear T19 hb19
  go_wp2_with fail
  refine (heldHouse_any _ _ _ _ ((runActs hd0 n1 x1).1) (1) _ _ _ O_g0 hN (by omega) (by omega)).mono ?_
  rintro e w20_ ⟨rfl, hb20⟩
  have T20 := hb20
  have Z20 := hb20.size
  replace yp0 : w.heap.size < w20_.heap.size := by omega
  replace kp0_0 := (T20.cell (p := ⟨w.heap.size, 0, none⟩) (by simp only []; omega)).trans kp0_0
  replace kp0_1 := (T20.cell (p := ⟨w.heap.size, 1, none⟩) (by simp only []; omega)).trans kp0_1
  replace kp0_2 := (T20.cell (p := ⟨w.heap.size, 2, none⟩) (by simp only []; omega)).trans kp0_2
  replace kp0_3 := (T20.cell (p := ⟨w.heap.size, 3, none⟩) (by simp only []; omega)).trans kp0_3
  replace kp0_4 := (T20.cell (p := ⟨w.heap.size, 4, none⟩) (by simp only []; omega)).trans kp0_4
  replace kp0_5 := (T20.cell (p := ⟨w.heap.size, 5, none⟩) (by simp only []; omega)).trans kp0_5
  replace yw0 : w4_.heap.size < w20_.heap.size := by omega
  replace kw0_0 := (T20.cell (p := ⟨w4_.heap.size, 0, none⟩) (by simp only []; omega)).trans kw0_0
  replace kw0_1 := (T20.cell (p := ⟨w4_.heap.size, 1, none⟩) (by simp only []; omega)).trans kw0_1
  replace kw0_2 := (T20.cell (p := ⟨w4_.heap.size, 2, none⟩) (by simp only []; omega)).trans kw0_2
  replace kw0_3 := (T20.cell (p := ⟨w4_.heap.size, 3, none⟩) (by simp only []; omega)).trans kw0_3
  replace kw0_4 := (T20.cell (p := ⟨w4_.heap.size, 4, none⟩) (by simp only []; omega)).trans kw0_4
  replace kw0_5 := (T20.cell (p := ⟨w4_.heap.size, 5, none⟩) (by simp only []; omega)).trans kw0_5
  replace yg0 : w7_.heap.size < w20_.heap.size := by omega
  replace kg0_0 := (T20.cell (p := ⟨w7_.heap.size, 0, none⟩) (by simp only []; omega)).trans kg0_0
  replace kg0_1 := (T20.cell (p := ⟨w7_.heap.size, 1, none⟩) (by simp only []; omega)).trans kg0_1
  replace kg0_2 := (T20.cell (p := ⟨w7_.heap.size, 2, none⟩) (by simp only []; omega)).trans kg0_2
  replace kg0_3 := (T20.cell (p := ⟨w7_.heap.size, 3, none⟩) (by simp only []; omega)).trans kg0_3
  replace kg0_4 := (T20.cell (p := ⟨w7_.heap.size, 4, none⟩) (by simp only []; omega)).trans kg0_4
  replace kg0_5 := (T20.cell (p := ⟨w7_.heap.size, 5, none⟩) (by simp only []; omega)).trans kg0_5
  replace O_w0 := O_w0.below T20
  replace O_w1 := O_w1.below T20
  replace O_g1 := O_g1.below T20
  replace O_g0 := O_g0.below T20
  have D20 := bnext D19 T20
  clear T20 hb20
  go_wp2_with fail
  refine (heldIntS_o _ ((runActs hd0 n1 x1).2).length (1 + (((runActs hd0 n1 x1).1).bulk : Int)) _ _ _ _ O_g1 (by omega) (by omega) (by omega)).mono ?_
  rintro e w21_ ⟨rfl, hb21⟩
  have T21 := hb21
  have Z21 := hb21.size
  replace yp0 : w.heap.size < w21_.heap.size := by omega
  replace kp0_0 := (T21.cell (p := ⟨w.heap.size, 0, none⟩) (by simp only []; omega)).trans kp0_0
  replace kp0_1 := (T21.cell (p := ⟨w.heap.size, 1, none⟩) (by simp only []; omega)).trans kp0_1
  replace kp0_2 := (T21.cell (p := ⟨w.heap.size, 2, none⟩) (by simp only []; omega)).trans kp0_2
  replace kp0_3 := (T21.cell (p := ⟨w.heap.size, 3, none⟩) (by simp only []; omega)).trans kp0_3
  replace kp0_4 := (T21.cell (p := ⟨w.heap.size, 4, none⟩) (by simp only []; omega)).trans kp0_4
  replace kp0_5 := (T21.cell (p := ⟨w.heap.size, 5, none⟩) (by simp only []; omega)).trans kp0_5
  replace yw0 : w4_.heap.size < w21_.heap.size := by omega
  replace kw0_0 := (T21.cell (p := ⟨w4_.heap.size, 0, none⟩) (by simp only []; omega)).trans kw0_0
  replace kw0_1 := (T21.cell (p := ⟨w4_.heap.size, 1, none⟩) (by simp only []; omega)).trans kw0_1
  replace kw0_2 := (T21.cell (p := ⟨w4_.heap.size, 2, none⟩) (by simp only []; omega)).trans kw0_2
  replace kw0_3 := (T21.cell (p := ⟨w4_.heap.size, 3, none⟩) (by simp only []; omega)).trans kw0_3
  replace kw0_4 := (T21.cell (p := ⟨w4_.heap.size, 4, none⟩) (by simp only []; omega)).trans kw0_4
  replace kw0_5 := (T21.cell (p := ⟨w4_.heap.size, 5, none⟩) (by simp only []; omega)).trans kw0_5
  replace yg0 : w7_.heap.size < w21_.heap.size := by omega
  replace kg0_0 := (T21.cell (p := ⟨w7_.heap.size, 0, none⟩) (by simp only []; omega)).trans kg0_0
  replace kg0_1 := (T21.cell (p := ⟨w7_.heap.size, 1, none⟩) (by simp only []; omega)).trans kg0_1
  replace kg0_2 := (T21.cell (p := ⟨w7_.heap.size, 2, none⟩) (by simp only []; omega)).trans kg0_2
  replace kg0_3 := (T21.cell (p := ⟨w7_.heap.size, 3, none⟩) (by simp only []; omega)).trans kg0_3
  replace kg0_4 := (T21.cell (p := ⟨w7_.heap.size, 4, none⟩) (by simp only []; omega)).trans kg0_4
  replace kg0_5 := (T21.cell (p := ⟨w7_.heap.size, 5, none⟩) (by simp only []; omega)).trans kg0_5
  replace O_w0 := O_w0.below T21
  replace O_w1 := O_w1.below T21
  replace O_g1 := O_g1.below T21
  replace O_g0 := O_g0.below T21
  have D21 := bnext D20 T21
  clear T21 hb21
  go_wp2_with fail
  refine (toHouse_any _ _ _ _ (hd0) _ (h0.below D21) hB0).mono ?_
  rintro e w22_ ⟨gc_22, gm_22, go_22, gt_22, rfl, hO22, hb22⟩
  have T22 := hb22
  have Z22 := hb22.size
  replace yp0 : w.heap.size < w22_.heap.size := by omega
  replace kp0_0 := (T22.cell (p := ⟨w.heap.size, 0, none⟩) (by simp only []; omega)).trans kp0_0
  replace kp0_1 := (T22.cell (p := ⟨w.heap.size, 1, none⟩) (by simp only []; omega)).trans kp0_1
  replace kp0_2 := (T22.cell (p := ⟨w.heap.size, 2, none⟩) (by simp only []; omega)).trans kp0_2
  replace kp0_3 := (T22.cell (p := ⟨w.heap.size, 3, none⟩) (by simp only []; omega)).trans kp0_3
  replace kp0_4 := (T22.cell (p := ⟨w.heap.size, 4, none⟩) (by simp only []; omega)).trans kp0_4
  replace kp0_5 := (T22.cell (p := ⟨w.heap.size, 5, none⟩) (by simp only []; omega)).trans kp0_5
  replace yw0 : w4_.heap.size < w22_.heap.size := by omega
  replace kw0_0 := (T22.cell (p := ⟨w4_.heap.size, 0, none⟩) (by simp only []; omega)).trans kw0_0
  replace kw0_1 := (T22.cell (p := ⟨w4_.heap.size, 1, none⟩) (by simp only []; omega)).trans kw0_1
  replace kw0_2 := (T22.cell (p := ⟨w4_.heap.size, 2, none⟩) (by simp only []; omega)).trans kw0_2
  replace kw0_3 := (T22.cell (p := ⟨w4_.heap.size, 3, none⟩) (by simp only []; omega)).trans kw0_3
  replace kw0_4 := (T22.cell (p := ⟨w4_.heap.size, 4, none⟩) (by simp only []; omega)).trans kw0_4
  replace kw0_5 := (T22.cell (p := ⟨w4_.heap.size, 5, none⟩) (by simp only []; omega)).trans kw0_5
  replace yg0 : w7_.heap.size < w22_.heap.size := by omega
  replace kg0_0 := (T22.cell (p := ⟨w7_.heap.size, 0, none⟩) (by simp only []; omega)).trans kg0_0
  replace kg0_1 := (T22.cell (p := ⟨w7_.heap.size, 1, none⟩) (by simp only []; omega)).trans kg0_1
  replace kg0_2 := (T22.cell (p := ⟨w7_.heap.size, 2, none⟩) (by simp only []; omega)).trans kg0_2
  replace kg0_3 := (T22.cell (p := ⟨w7_.heap.size, 3, none⟩) (by simp only []; omega)).trans kg0_3
  replace kg0_4 := (T22.cell (p := ⟨w7_.heap.size, 4, none⟩) (by simp only []; omega)).trans kg0_4
  replace kg0_5 := (T22.cell (p := ⟨w7_.heap.size, 5, none⟩) (by simp only []; omega)).trans kg0_5
  replace O_w0 := O_w0.below T22
  replace O_w1 := O_w1.below T22
  replace O_g1 := O_g1.below T22
  replace O_g0 := O_g0.below T22
  have D22 := bnext D21 T22
  have O_s0 := hO22
  clear hO22
  clear T22 hb22
  go_wp2_with fail
  refine (toActS_any _ n1 x1 _ (h1.below D22) (by omega)).mono ?_
  rintro e w23_ ⟨rfl, hO23, hb23⟩
  have T23 := hb23
  have Z23 := hb23.size
  replace yp0 : w.heap.size < w23_.heap.size := by omega
  replace kp0_0 := (T23.cell (p := ⟨w.heap.size, 0, none⟩) (by simp only []; omega)).trans kp0_0
  replace kp0_1 := (T23.cell (p := ⟨w.heap.size, 1, none⟩) (by simp only []; omega)).trans kp0_1
  replace kp0_2 := (T23.cell (p := ⟨w.heap.size, 2, none⟩) (by simp only []; omega)).trans kp0_2
  replace kp0_3 := (T23.cell (p := ⟨w.heap.size, 3, none⟩) (by simp only []; omega)).trans kp0_3
  replace kp0_4 := (T23.cell (p := ⟨w.heap.size, 4, none⟩) (by simp only []; omega)).trans kp0_4
  replace kp0_5 := (T23.cell (p := ⟨w.heap.size, 5, none⟩) (by simp only []; omega)).trans kp0_5
  replace yw0 : w4_.heap.size < w23_.heap.size := by omega
  replace kw0_0 := (T23.cell (p := ⟨w4_.heap.size, 0, none⟩) (by simp only []; omega)).trans kw0_0
  replace kw0_1 := (T23.cell (p := ⟨w4_.heap.size, 1, none⟩) (by simp only []; omega)).trans kw0_1
  replace kw0_2 := (T23.cell (p := ⟨w4_.heap.size, 2, none⟩) (by simp only []; omega)).trans kw0_2
  replace kw0_3 := (T23.cell (p := ⟨w4_.heap.size, 3, none⟩) (by simp only []; omega)).trans kw0_3
  replace kw0_4 := (T23.cell (p := ⟨w4_.heap.size, 4, none⟩) (by simp only []; omega)).trans kw0_4
  replace kw0_5 := (T23.cell (p := ⟨w4_.heap.size, 5, none⟩) (by simp only []; omega)).trans kw0_5
  replace yg0 : w7_.heap.size < w23_.heap.size := by omega
  replace kg0_0 := (T23.cell (p := ⟨w7_.heap.size, 0, none⟩) (by simp only []; omega)).trans kg0_0
  replace kg0_1 := (T23.cell (p := ⟨w7_.heap.size, 1, none⟩) (by simp only []; omega)).trans kg0_1
  replace kg0_2 := (T23.cell (p := ⟨w7_.heap.size, 2, none⟩) (by simp only []; omega)).trans kg0_2
  replace kg0_3 := (T23.cell (p := ⟨w7_.heap.size, 3, none⟩) (by simp only []; omega)).trans kg0_3
  replace kg0_4 := (T23.cell (p := ⟨w7_.heap.size, 4, none⟩) (by simp only []; omega)).trans kg0_4
  replace kg0_5 := (T23.cell (p := ⟨w7_.heap.size, 5, none⟩) (by simp only []; omega)).trans kg0_5
  replace O_w0 := O_w0.below T23
  replace O_w1 := O_w1.below T23
  replace O_g1 := O_g1.below T23
  replace O_g0 := O_g0.below T23
  replace O_s0 := O_s0.below T23
  have D23 := bnext D22 T23
  have O_s1 := RowO.of hO23
  clear hO23
  clear T23 hb23
  go_wp2_with fail
  refine (implRunActsV _ _ _ _ hd0 _ n1 x1 _ (O_s0.read hB0) (O_s1.recs (by omega)) O_s0.nils hB0).mono ?_
  rintro e w24_ ⟨ac_24, cc_24, am_24, cm_24, ao_24, co_24, at_24, ct_24, al_24, cl_24, rfl, hO24, ⟨p_24, q_24, pa_24, qa_24, hP24, oc_24, om_24, oo_24, ot_24⟩, hb24⟩
  have T24 := hb24
  have Z24 := hb24.size
  replace yp0 : w.heap.size < w24_.heap.size := by omega
  replace kp0_0 := (T24.cell (p := ⟨w.heap.size, 0, none⟩) (by simp only []; omega)).trans kp0_0
  replace kp0_1 := (T24.cell (p := ⟨w.heap.size, 1, none⟩) (by simp only []; omega)).trans kp0_1
  replace kp0_2 := (T24.cell (p := ⟨w.heap.size, 2, none⟩) (by simp only []; omega)).trans kp0_2
  replace kp0_3 := (T24.cell (p := ⟨w.heap.size, 3, none⟩) (by simp only []; omega)).trans kp0_3
  replace kp0_4 := (T24.cell (p := ⟨w.heap.size, 4, none⟩) (by simp only []; omega)).trans kp0_4
  replace kp0_5 := (T24.cell (p := ⟨w.heap.size, 5, none⟩) (by simp only []; omega)).trans kp0_5
  replace yw0 : w4_.heap.size < w24_.heap.size := by omega
  replace kw0_0 := (T24.cell (p := ⟨w4_.heap.size, 0, none⟩) (by simp only []; omega)).trans kw0_0
  replace kw0_1 := (T24.cell (p := ⟨w4_.heap.size, 1, none⟩) (by simp only []; omega)).trans kw0_1
  replace kw0_2 := (T24.cell (p := ⟨w4_.heap.size, 2, none⟩) (by simp only []; omega)).trans kw0_2
  replace kw0_3 := (T24.cell (p := ⟨w4_.heap.size, 3, none⟩) (by simp only []; omega)).trans kw0_3
  replace kw0_4 := (T24.cell (p := ⟨w4_.heap.size, 4, none⟩) (by simp only []; omega)).trans kw0_4
  replace kw0_5 := (T24.cell (p := ⟨w4_.heap.size, 5, none⟩) (by simp only []; omega)).trans kw0_5
  replace yg0 : w7_.heap.size < w24_.heap.size := by omega
  replace kg0_0 := (T24.cell (p := ⟨w7_.heap.size, 0, none⟩) (by simp only []; omega)).trans kg0_0
  replace kg0_1 := (T24.cell (p := ⟨w7_.heap.size, 1, none⟩) (by simp only []; omega)).trans kg0_1
  replace kg0_2 := (T24.cell (p := ⟨w7_.heap.size, 2, none⟩) (by simp only []; omega)).trans kg0_2
  replace kg0_3 := (T24.cell (p := ⟨w7_.heap.size, 3, none⟩) (by simp only []; omega)).trans kg0_3
  replace kg0_4 := (T24.cell (p := ⟨w7_.heap.size, 4, none⟩) (by simp only []; omega)).trans kg0_4
  replace kg0_5 := (T24.cell (p := ⟨w7_.heap.size, 5, none⟩) (by simp only []; omega)).trans kg0_5
  replace O_w0 := O_w0.below T24
  replace O_w1 := O_w1.below T24
  replace O_g1 := O_g1.below T24
  replace O_g0 := O_g0.below T24
  replace O_s0 := O_s0.below T24
  replace O_s1 := O_s1.below T24
  have D24 := bnext D23 T24
  have O_h0 := hO24
  clear hO24
  have pw_24 : w23_.heap.size + 0 ≤ p_24 := by have h := pa_24; first | omega | (simp at h; omega)
  have O_h1 := hP24
  clear hP24
  clear T24 hb24
  go_wp2_with fail
  clear O_s0
  clear O_s1
  refine (eqHouse_same _ _ _ _ _ _ _ _ ((runActs hd0 n1 x1).1) _ ((O_h0.read hN).below (balloc (bref _) _)) ((O_w0.read hN).below (balloc (bref _) _))).mono ?_
  rintro e w25_ ⟨rfl, hb25⟩
  have T25 := bnext (balloc (bref _) _) hb25
  have Z25 : w24_.heap.size + 1 ≤ w25_.heap.size := by have h := hb25.size; simp at h; omega
  replace yp0 : w.heap.size < w25_.heap.size := by omega
  replace kp0_0 := (T25.cell (p := ⟨w.heap.size, 0, none⟩) (by simp only []; omega)).trans kp0_0
  replace kp0_1 := (T25.cell (p := ⟨w.heap.size, 1, none⟩) (by simp only []; omega)).trans kp0_1
  replace kp0_2 := (T25.cell (p := ⟨w.heap.size, 2, none⟩) (by simp only []; omega)).trans kp0_2
  replace kp0_3 := (T25.cell (p := ⟨w.heap.size, 3, none⟩) (by simp only []; omega)).trans kp0_3
  replace kp0_4 := (T25.cell (p := ⟨w.heap.size, 4, none⟩) (by simp only []; omega)).trans kp0_4
  replace kp0_5 := (T25.cell (p := ⟨w.heap.size, 5, none⟩) (by simp only []; omega)).trans kp0_5
  replace yw0 : w4_.heap.size < w25_.heap.size := by omega
  replace kw0_0 := (T25.cell (p := ⟨w4_.heap.size, 0, none⟩) (by simp only []; omega)).trans kw0_0
  replace kw0_1 := (T25.cell (p := ⟨w4_.heap.size, 1, none⟩) (by simp only []; omega)).trans kw0_1
  replace kw0_2 := (T25.cell (p := ⟨w4_.heap.size, 2, none⟩) (by simp only []; omega)).trans kw0_2
  replace kw0_3 := (T25.cell (p := ⟨w4_.heap.size, 3, none⟩) (by simp only []; omega)).trans kw0_3
  replace kw0_4 := (T25.cell (p := ⟨w4_.heap.size, 4, none⟩) (by simp only []; omega)).trans kw0_4
  replace kw0_5 := (T25.cell (p := ⟨w4_.heap.size, 5, none⟩) (by simp only []; omega)).trans kw0_5
  replace yg0 : w7_.heap.size < w25_.heap.size := by omega
  replace kg0_0 := (T25.cell (p := ⟨w7_.heap.size, 0, none⟩) (by simp only []; omega)).trans kg0_0
  replace kg0_1 := (T25.cell (p := ⟨w7_.heap.size, 1, none⟩) (by simp only []; omega)).trans kg0_1
  replace kg0_2 := (T25.cell (p := ⟨w7_.heap.size, 2, none⟩) (by simp only []; omega)).trans kg0_2
  replace kg0_3 := (T25.cell (p := ⟨w7_.heap.size, 3, none⟩) (by simp only []; omega)).trans kg0_3
  replace kg0_4 := (T25.cell (p := ⟨w7_.heap.size, 4, none⟩) (by simp only []; omega)).trans kg0_4
  replace kg0_5 := (T25.cell (p := ⟨w7_.heap.size, 5, none⟩) (by simp only []; omega)).trans kg0_5
  have yh0 : w24_.heap.size < w25_.heap.size := by omega
  have kh0_0 : w25_.cell? ⟨w24_.heap.size, 0, none⟩ = some ((.slice ac_24 ((runActs hd0 n1 x1).1).n cc_24)) := (hb25.cell (p := ⟨w24_.heap.size, 0, none⟩) (by simp)).trans (by simp)
  have kh0_1 : w25_.cell? ⟨w24_.heap.size, 1, none⟩ = some ((.slice am_24 ((runActs hd0 n1 x1).1).ms.length cm_24)) := (hb25.cell (p := ⟨w24_.heap.size, 1, none⟩) (by simp)).trans (by simp)
  have kh0_2 : w25_.cell? ⟨w24_.heap.size, 2, none⟩ = some ((.slice ao_24 ((runActs hd0 n1 x1).1).os.length co_24)) := (hb25.cell (p := ⟨w24_.heap.size, 2, none⟩) (by simp)).trans (by simp)
  have kh0_3 : w25_.cell? ⟨w24_.heap.size, 3, none⟩ = some ((.slice at_24 ((runActs hd0 n1 x1).1).ts.length ct_24)) := (hb25.cell (p := ⟨w24_.heap.size, 3, none⟩) (by simp)).trans (by simp)
  have kh0_4 : w25_.cell? ⟨w24_.heap.size, 4, none⟩ = some (.int .i64 ((runActs hd0 n1 x1).1).sent) := (hb25.cell (p := ⟨w24_.heap.size, 4, none⟩) (by simp)).trans (by simp)
  have kh0_5 : w25_.cell? ⟨w24_.heap.size, 5, none⟩ = some (.int .i64 ((runActs hd0 n1 x1).1).day) := (hb25.cell (p := ⟨w24_.heap.size, 5, none⟩) (by simp)).trans (by simp)
  replace O_w0 := O_w0.below T25
  replace O_w1 := O_w1.below T25
  replace O_g1 := O_g1.below T25
  replace O_g0 := O_g0.below T25
  replace O_h0 := O_h0.below T25
  replace O_h1 := O_h1.below T25
  have D25 := bnext D24 T25
  clear T25 hb25
  go_wp2_with fail
  refine (eqIntS_bel _ _ ((runActs hd0 n1 x1).2) ((runActs hd0 n1 x1).2) _ (O_h1.ints (by omega)) (O_w1.ints (by omega))).mono ?_
  rintro e w26_ ⟨rfl, hb26⟩
  have T26 := hb26
  have Z26 := hb26.size
  replace yp0 : w.heap.size < w26_.heap.size := by omega
  replace kp0_0 := (T26.cell (p := ⟨w.heap.size, 0, none⟩) (by simp only []; omega)).trans kp0_0
  replace kp0_1 := (T26.cell (p := ⟨w.heap.size, 1, none⟩) (by simp only []; omega)).trans kp0_1
  replace kp0_2 := (T26.cell (p := ⟨w.heap.size, 2, none⟩) (by simp only []; omega)).trans kp0_2
  replace kp0_3 := (T26.cell (p := ⟨w.heap.size, 3, none⟩) (by simp only []; omega)).trans kp0_3
  replace kp0_4 := (T26.cell (p := ⟨w.heap.size, 4, none⟩) (by simp only []; omega)).trans kp0_4
  replace kp0_5 := (T26.cell (p := ⟨w.heap.size, 5, none⟩) (by simp only []; omega)).trans kp0_5
  replace yw0 : w4_.heap.size < w26_.heap.size := by omega
  replace kw0_0 := (T26.cell (p := ⟨w4_.heap.size, 0, none⟩) (by simp only []; omega)).trans kw0_0
  replace kw0_1 := (T26.cell (p := ⟨w4_.heap.size, 1, none⟩) (by simp only []; omega)).trans kw0_1
  replace kw0_2 := (T26.cell (p := ⟨w4_.heap.size, 2, none⟩) (by simp only []; omega)).trans kw0_2
  replace kw0_3 := (T26.cell (p := ⟨w4_.heap.size, 3, none⟩) (by simp only []; omega)).trans kw0_3
  replace kw0_4 := (T26.cell (p := ⟨w4_.heap.size, 4, none⟩) (by simp only []; omega)).trans kw0_4
  replace kw0_5 := (T26.cell (p := ⟨w4_.heap.size, 5, none⟩) (by simp only []; omega)).trans kw0_5
  replace yg0 : w7_.heap.size < w26_.heap.size := by omega
  replace kg0_0 := (T26.cell (p := ⟨w7_.heap.size, 0, none⟩) (by simp only []; omega)).trans kg0_0
  replace kg0_1 := (T26.cell (p := ⟨w7_.heap.size, 1, none⟩) (by simp only []; omega)).trans kg0_1
  replace kg0_2 := (T26.cell (p := ⟨w7_.heap.size, 2, none⟩) (by simp only []; omega)).trans kg0_2
  replace kg0_3 := (T26.cell (p := ⟨w7_.heap.size, 3, none⟩) (by simp only []; omega)).trans kg0_3
  replace kg0_4 := (T26.cell (p := ⟨w7_.heap.size, 4, none⟩) (by simp only []; omega)).trans kg0_4
  replace kg0_5 := (T26.cell (p := ⟨w7_.heap.size, 5, none⟩) (by simp only []; omega)).trans kg0_5
  replace yh0 : w24_.heap.size < w26_.heap.size := by omega
  replace kh0_0 := (T26.cell (p := ⟨w24_.heap.size, 0, none⟩) (by simp only []; omega)).trans kh0_0
  replace kh0_1 := (T26.cell (p := ⟨w24_.heap.size, 1, none⟩) (by simp only []; omega)).trans kh0_1
  replace kh0_2 := (T26.cell (p := ⟨w24_.heap.size, 2, none⟩) (by simp only []; omega)).trans kh0_2
  replace kh0_3 := (T26.cell (p := ⟨w24_.heap.size, 3, none⟩) (by simp only []; omega)).trans kh0_3
  replace kh0_4 := (T26.cell (p := ⟨w24_.heap.size, 4, none⟩) (by simp only []; omega)).trans kh0_4
  replace kh0_5 := (T26.cell (p := ⟨w24_.heap.size, 5, none⟩) (by simp only []; omega)).trans kh0_5
  replace O_w0 := O_w0.below T26
  replace O_w1 := O_w1.below T26
  replace O_g1 := O_g1.below T26
  replace O_g0 := O_g0.below T26
  replace O_h0 := O_h0.below T26
  replace O_h1 := O_h1.below T26
  have D26 := bnext D25 T26
  clear T26 hb26
  go_wp2_with fail
  refine (heldHouse_any _ _ _ _ ((runActs hd0 n1 x1).1) (1) _ _ _ O_g0 hN (by omega) (by omega)).mono ?_
  rintro e w27_ ⟨rfl, hb27⟩
  have T27 := hb27
  have Z27 := hb27.size
  replace yp0 : w.heap.size < w27_.heap.size := by omega
  replace kp0_0 := (T27.cell (p := ⟨w.heap.size, 0, none⟩) (by simp only []; omega)).trans kp0_0
  replace kp0_1 := (T27.cell (p := ⟨w.heap.size, 1, none⟩) (by simp only []; omega)).trans kp0_1
  replace kp0_2 := (T27.cell (p := ⟨w.heap.size, 2, none⟩) (by simp only []; omega)).trans kp0_2
  replace kp0_3 := (T27.cell (p := ⟨w.heap.size, 3, none⟩) (by simp only []; omega)).trans kp0_3
  replace kp0_4 := (T27.cell (p := ⟨w.heap.size, 4, none⟩) (by simp only []; omega)).trans kp0_4
  replace kp0_5 := (T27.cell (p := ⟨w.heap.size, 5, none⟩) (by simp only []; omega)).trans kp0_5
  replace yw0 : w4_.heap.size < w27_.heap.size := by omega
  replace kw0_0 := (T27.cell (p := ⟨w4_.heap.size, 0, none⟩) (by simp only []; omega)).trans kw0_0
  replace kw0_1 := (T27.cell (p := ⟨w4_.heap.size, 1, none⟩) (by simp only []; omega)).trans kw0_1
  replace kw0_2 := (T27.cell (p := ⟨w4_.heap.size, 2, none⟩) (by simp only []; omega)).trans kw0_2
  replace kw0_3 := (T27.cell (p := ⟨w4_.heap.size, 3, none⟩) (by simp only []; omega)).trans kw0_3
  replace kw0_4 := (T27.cell (p := ⟨w4_.heap.size, 4, none⟩) (by simp only []; omega)).trans kw0_4
  replace kw0_5 := (T27.cell (p := ⟨w4_.heap.size, 5, none⟩) (by simp only []; omega)).trans kw0_5
  replace yg0 : w7_.heap.size < w27_.heap.size := by omega
  replace kg0_0 := (T27.cell (p := ⟨w7_.heap.size, 0, none⟩) (by simp only []; omega)).trans kg0_0
  replace kg0_1 := (T27.cell (p := ⟨w7_.heap.size, 1, none⟩) (by simp only []; omega)).trans kg0_1
  replace kg0_2 := (T27.cell (p := ⟨w7_.heap.size, 2, none⟩) (by simp only []; omega)).trans kg0_2
  replace kg0_3 := (T27.cell (p := ⟨w7_.heap.size, 3, none⟩) (by simp only []; omega)).trans kg0_3
  replace kg0_4 := (T27.cell (p := ⟨w7_.heap.size, 4, none⟩) (by simp only []; omega)).trans kg0_4
  replace kg0_5 := (T27.cell (p := ⟨w7_.heap.size, 5, none⟩) (by simp only []; omega)).trans kg0_5
  replace yh0 : w24_.heap.size < w27_.heap.size := by omega
  replace kh0_0 := (T27.cell (p := ⟨w24_.heap.size, 0, none⟩) (by simp only []; omega)).trans kh0_0
  replace kh0_1 := (T27.cell (p := ⟨w24_.heap.size, 1, none⟩) (by simp only []; omega)).trans kh0_1
  replace kh0_2 := (T27.cell (p := ⟨w24_.heap.size, 2, none⟩) (by simp only []; omega)).trans kh0_2
  replace kh0_3 := (T27.cell (p := ⟨w24_.heap.size, 3, none⟩) (by simp only []; omega)).trans kh0_3
  replace kh0_4 := (T27.cell (p := ⟨w24_.heap.size, 4, none⟩) (by simp only []; omega)).trans kh0_4
  replace kh0_5 := (T27.cell (p := ⟨w24_.heap.size, 5, none⟩) (by simp only []; omega)).trans kh0_5
  replace O_w0 := O_w0.below T27
  replace O_w1 := O_w1.below T27
  replace O_g1 := O_g1.below T27
  replace O_g0 := O_g0.below T27
  replace O_h0 := O_h0.below T27
  replace O_h1 := O_h1.below T27
  have D27 := bnext D26 T27
  clear T27 hb27
  go_wp2_with fail
  refine (heldIntS_o _ ((runActs hd0 n1 x1).2).length (1 + (((runActs hd0 n1 x1).1).bulk : Int)) _ _ _ _ O_g1 (by omega) (by omega) (by omega)).mono ?_
  rintro e w28_ ⟨rfl, hb28⟩
  have T28 := hb28
  have Z28 := hb28.size
  replace yp0 : w.heap.size < w28_.heap.size := by omega
  replace kp0_0 := (T28.cell (p := ⟨w.heap.size, 0, none⟩) (by simp only []; omega)).trans kp0_0
  replace kp0_1 := (T28.cell (p := ⟨w.heap.size, 1, none⟩) (by simp only []; omega)).trans kp0_1
  replace kp0_2 := (T28.cell (p := ⟨w.heap.size, 2, none⟩) (by simp only []; omega)).trans kp0_2
  replace kp0_3 := (T28.cell (p := ⟨w.heap.size, 3, none⟩) (by simp only []; omega)).trans kp0_3
  replace kp0_4 := (T28.cell (p := ⟨w.heap.size, 4, none⟩) (by simp only []; omega)).trans kp0_4
  replace kp0_5 := (T28.cell (p := ⟨w.heap.size, 5, none⟩) (by simp only []; omega)).trans kp0_5
  replace yw0 : w4_.heap.size < w28_.heap.size := by omega
  replace kw0_0 := (T28.cell (p := ⟨w4_.heap.size, 0, none⟩) (by simp only []; omega)).trans kw0_0
  replace kw0_1 := (T28.cell (p := ⟨w4_.heap.size, 1, none⟩) (by simp only []; omega)).trans kw0_1
  replace kw0_2 := (T28.cell (p := ⟨w4_.heap.size, 2, none⟩) (by simp only []; omega)).trans kw0_2
  replace kw0_3 := (T28.cell (p := ⟨w4_.heap.size, 3, none⟩) (by simp only []; omega)).trans kw0_3
  replace kw0_4 := (T28.cell (p := ⟨w4_.heap.size, 4, none⟩) (by simp only []; omega)).trans kw0_4
  replace kw0_5 := (T28.cell (p := ⟨w4_.heap.size, 5, none⟩) (by simp only []; omega)).trans kw0_5
  replace yg0 : w7_.heap.size < w28_.heap.size := by omega
  replace kg0_0 := (T28.cell (p := ⟨w7_.heap.size, 0, none⟩) (by simp only []; omega)).trans kg0_0
  replace kg0_1 := (T28.cell (p := ⟨w7_.heap.size, 1, none⟩) (by simp only []; omega)).trans kg0_1
  replace kg0_2 := (T28.cell (p := ⟨w7_.heap.size, 2, none⟩) (by simp only []; omega)).trans kg0_2
  replace kg0_3 := (T28.cell (p := ⟨w7_.heap.size, 3, none⟩) (by simp only []; omega)).trans kg0_3
  replace kg0_4 := (T28.cell (p := ⟨w7_.heap.size, 4, none⟩) (by simp only []; omega)).trans kg0_4
  replace kg0_5 := (T28.cell (p := ⟨w7_.heap.size, 5, none⟩) (by simp only []; omega)).trans kg0_5
  replace yh0 : w24_.heap.size < w28_.heap.size := by omega
  replace kh0_0 := (T28.cell (p := ⟨w24_.heap.size, 0, none⟩) (by simp only []; omega)).trans kh0_0
  replace kh0_1 := (T28.cell (p := ⟨w24_.heap.size, 1, none⟩) (by simp only []; omega)).trans kh0_1
  replace kh0_2 := (T28.cell (p := ⟨w24_.heap.size, 2, none⟩) (by simp only []; omega)).trans kh0_2
  replace kh0_3 := (T28.cell (p := ⟨w24_.heap.size, 3, none⟩) (by simp only []; omega)).trans kh0_3
  replace kh0_4 := (T28.cell (p := ⟨w24_.heap.size, 4, none⟩) (by simp only []; omega)).trans kh0_4
  replace kh0_5 := (T28.cell (p := ⟨w24_.heap.size, 5, none⟩) (by simp only []; omega)).trans kh0_5
  replace O_w0 := O_w0.below T28
  replace O_w1 := O_w1.below T28
  replace O_g1 := O_g1.below T28
  replace O_g0 := O_g0.below T28
  replace O_h0 := O_h0.below T28
  replace O_h1 := O_h1.below T28
  have D28 := bnext D27 T28
  clear T28 hb28
  go_wp2
  go_ret
  exact ⟨rfl, D28⟩
end Go.Proofs.Ytfmlakldaoojfaa
