/- The law that compares Withdraw with the reference, walked. -/
import Derived.Test.YtdchgbhhlocmdaaWithdrawI
import Derived.Test.YtdchgbhhlocmdaaWithdrawS
import Derived.Test.YtdchgbhhlocmdaaMarkW
import Derived.Test.YtdchgbhhlocmdaaHouseS
import Derived.Test.YtdchgbhhlocmdaaLetMark
import Derived.Deep.RegionHeld3
namespace Go.Proofs.Ytdchgbhhlocmdaa
open Go.ChangeShapes Go.WideShapes Go.ChangeAt Go.RowKit
set_option maxRecDepth 100000 in
set_option maxHeartbeats 4000000 in
theorem fnExactWithdraw_any (vc0 vm0 vo0 vt0 : Value) (hd0 : HD) (b : Int) (s : Int) (w : World) (h0 : HouseR w vc0 vm0 vo0 vt0 hd0)   :
    Calls Try.prog 10 #[.agg #[vc0, vm0, vo0, vt0, .int .i64 (hd0).sent, .int .i64 (hd0).day], .int .i64 b, .int .i64 s] w fun e w' => e = .returned (.bool true) ∧ Below w.heap.size w w' := by
  obtain ⟨adc0, capc0, rfl⟩ : ∃ ad cap, vc0 = .slice ad hd0.n cap := by obtain ⟨_, _, ad, cap, hh, _⟩ := h0.c; exact ⟨ad, cap, hh⟩
  obtain ⟨adm0, capm0, rfl⟩ : ∃ ad cap, vm0 = .slice ad hd0.ms.length cap := by obtain ⟨_, ad, cap, hh, _⟩ := h0.m; exact ⟨ad, cap, hh⟩
  obtain ⟨ado0, capo0, rfl⟩ : ∃ ad cap, vo0 = .slice ad hd0.os.length cap := by obtain ⟨_, ad, cap, hh, _⟩ := h0.o; exact ⟨ad, cap, hh⟩
  obtain ⟨adt0, capt0, rfl⟩ : ∃ ad cap, vt0 = .slice ad hd0.ts.length cap := by obtain ⟨_, ad, cap, hh, _⟩ := h0.t; exact ⟨ad, cap, hh⟩
  by_cases q0 : (1048576 : Int) < ((hd0).size : Int)
  · skip
    go_enter Try.func10, Try.ntmps10
    go_wp2_with fail
    refine (szHouse_any _ _ _ _ (hd0) (1048576) _ (h0.below (balloc (bref _) _)) (by omega) (by omega)).mono ?_
    rintro e w1_ ⟨rfl, hb1⟩
    have T1 := bnext (balloc (bref _) _) hb1
    have Z1 : w.heap.size + 1 ≤ w1_.heap.size := by have h := hb1.size; simp at h; omega
    have yp0 : w.heap.size < w1_.heap.size := by omega
    have kp0_0 : w1_.cell? ⟨w.heap.size, 0, none⟩ = some ((.slice adc0 hd0.n capc0)) := (hb1.cell (p := ⟨w.heap.size, 0, none⟩) (by simp)).trans (by simp)
    have kp0_1 : w1_.cell? ⟨w.heap.size, 1, none⟩ = some ((.slice adm0 hd0.ms.length capm0)) := (hb1.cell (p := ⟨w.heap.size, 1, none⟩) (by simp)).trans (by simp)
    have kp0_2 : w1_.cell? ⟨w.heap.size, 2, none⟩ = some ((.slice ado0 hd0.os.length capo0)) := (hb1.cell (p := ⟨w.heap.size, 2, none⟩) (by simp)).trans (by simp)
    have kp0_3 : w1_.cell? ⟨w.heap.size, 3, none⟩ = some ((.slice adt0 hd0.ts.length capt0)) := (hb1.cell (p := ⟨w.heap.size, 3, none⟩) (by simp)).trans (by simp)
    have kp0_4 : w1_.cell? ⟨w.heap.size, 4, none⟩ = some (.int .i64 (hd0).sent) := (hb1.cell (p := ⟨w.heap.size, 4, none⟩) (by simp)).trans (by simp)
    have kp0_5 : w1_.cell? ⟨w.heap.size, 5, none⟩ = some (.int .i64 (hd0).day) := (hb1.cell (p := ⟨w.heap.size, 5, none⟩) (by simp)).trans (by simp)
    have D1 := bnext (bref w) T1
    clear T1 hb1
    rw [szRes_lt (by omega)]
    go_wp2
    go_ret
    exact ⟨rfl, D1⟩
  have hB0 : HouseB hd0 1048576 := ⟨by unfold HD.size at q0; omega, by unfold HD.size at q0; omega, by unfold HD.size at q0; omega, by unfold HD.size at q0; omega⟩
  have hN := (withdraw_b hB0 b s).1
  have hM := (withdraw_b hB0 b s).2
  have hK := bulk_le hN
  have hK0 := bulk_le hB0
  have hK1 := mAll_bd hM
  go_enter Try.func10, Try.ntmps10
  go_wp2_with fail
  refine (szHouse_any _ _ _ _ (hd0) (1048576) _ (h0.below (balloc (bref _) _)) (by omega) (by omega)).mono ?_
  rintro e w1_ ⟨rfl, hb1⟩
  have T1 := bnext (balloc (bref _) _) hb1
  have Z1 : w.heap.size + 1 ≤ w1_.heap.size := by have h := hb1.size; simp at h; omega
  have yp0 : w.heap.size < w1_.heap.size := by omega
  have kp0_0 : w1_.cell? ⟨w.heap.size, 0, none⟩ = some ((.slice adc0 hd0.n capc0)) := (hb1.cell (p := ⟨w.heap.size, 0, none⟩) (by simp)).trans (by simp)
  have kp0_1 : w1_.cell? ⟨w.heap.size, 1, none⟩ = some ((.slice adm0 hd0.ms.length capm0)) := (hb1.cell (p := ⟨w.heap.size, 1, none⟩) (by simp)).trans (by simp)
  have kp0_2 : w1_.cell? ⟨w.heap.size, 2, none⟩ = some ((.slice ado0 hd0.os.length capo0)) := (hb1.cell (p := ⟨w.heap.size, 2, none⟩) (by simp)).trans (by simp)
  have kp0_3 : w1_.cell? ⟨w.heap.size, 3, none⟩ = some ((.slice adt0 hd0.ts.length capt0)) := (hb1.cell (p := ⟨w.heap.size, 3, none⟩) (by simp)).trans (by simp)
  have kp0_4 : w1_.cell? ⟨w.heap.size, 4, none⟩ = some (.int .i64 (hd0).sent) := (hb1.cell (p := ⟨w.heap.size, 4, none⟩) (by simp)).trans (by simp)
  have kp0_5 : w1_.cell? ⟨w.heap.size, 5, none⟩ = some (.int .i64 (hd0).day) := (hb1.cell (p := ⟨w.heap.size, 5, none⟩) (by simp)).trans (by simp)
  have D1 := bnext (bref w) T1
  clear T1 hb1
  rw [szRes_ge (by omega)]
  go_wp2_with fail
  refine (toHouse_any _ _ _ _ (hd0) _ (h0.below D1) hB0).mono ?_
  rintro e w2_ ⟨gc_2, gm_2, go_2, gt_2, rfl, hO2, hb2⟩
  have T2 := hb2
  have Z2 := hb2.size
  replace yp0 : w.heap.size < w2_.heap.size := by omega
  replace kp0_0 := (T2.cell (p := ⟨w.heap.size, 0, none⟩) (by simp only []; omega)).trans kp0_0
  replace kp0_1 := (T2.cell (p := ⟨w.heap.size, 1, none⟩) (by simp only []; omega)).trans kp0_1
  replace kp0_2 := (T2.cell (p := ⟨w.heap.size, 2, none⟩) (by simp only []; omega)).trans kp0_2
  replace kp0_3 := (T2.cell (p := ⟨w.heap.size, 3, none⟩) (by simp only []; omega)).trans kp0_3
  replace kp0_4 := (T2.cell (p := ⟨w.heap.size, 4, none⟩) (by simp only []; omega)).trans kp0_4
  replace kp0_5 := (T2.cell (p := ⟨w.heap.size, 5, none⟩) (by simp only []; omega)).trans kp0_5
  have D2 := bnext D1 T2
  have O_s0 := hO2
  clear hO2
  clear T2 hb2
  go_wp2_with fail
  refine (specWithdraw _ _ _ _ hd0 b s _ (O_s0.read hB0) O_s0.nils hB0).mono ?_
  rintro e w3_ ⟨ac_3, cc_3, am_3, cm_3, ao_3, co_3, at_3, ct_3, al_3, cl_3, rfl, hO3, ⟨p_3, q_3, pa_3, qa_3, hP3, oc_3, om_3, oo_3, ot_3⟩, hb3⟩
  have T3 := hb3
  have Z3 := hb3.size
  replace yp0 : w.heap.size < w3_.heap.size := by omega
  replace kp0_0 := (T3.cell (p := ⟨w.heap.size, 0, none⟩) (by simp only []; omega)).trans kp0_0
  replace kp0_1 := (T3.cell (p := ⟨w.heap.size, 1, none⟩) (by simp only []; omega)).trans kp0_1
  replace kp0_2 := (T3.cell (p := ⟨w.heap.size, 2, none⟩) (by simp only []; omega)).trans kp0_2
  replace kp0_3 := (T3.cell (p := ⟨w.heap.size, 3, none⟩) (by simp only []; omega)).trans kp0_3
  replace kp0_4 := (T3.cell (p := ⟨w.heap.size, 4, none⟩) (by simp only []; omega)).trans kp0_4
  replace kp0_5 := (T3.cell (p := ⟨w.heap.size, 5, none⟩) (by simp only []; omega)).trans kp0_5
  replace O_s0 := O_s0.below T3
  have D3 := bnext D2 T3
  have O_w0 := hO3
  clear hO3
  have pw_3 : w2_.heap.size + 0 ≤ p_3 := by have h := pa_3; first | omega | (simp at h; omega)
  have O_w1 := hP3
  clear hP3
  clear T3 hb3
  go_wp2_with fail
  clear O_s0
  refine (toHouse_any _ _ _ _ (hd0) _ ((h0.below D3).below (balloc (bref _) _)) hB0).mono ?_
  rintro e w4_ ⟨gc_4, gm_4, go_4, gt_4, rfl, hO4, hb4⟩
  have T4 := bnext (balloc (bref _) _) hb4
  have Z4 : w3_.heap.size + 1 ≤ w4_.heap.size := by have h := hb4.size; simp at h; omega
  replace yp0 : w.heap.size < w4_.heap.size := by omega
  replace kp0_0 := (T4.cell (p := ⟨w.heap.size, 0, none⟩) (by simp only []; omega)).trans kp0_0
  replace kp0_1 := (T4.cell (p := ⟨w.heap.size, 1, none⟩) (by simp only []; omega)).trans kp0_1
  replace kp0_2 := (T4.cell (p := ⟨w.heap.size, 2, none⟩) (by simp only []; omega)).trans kp0_2
  replace kp0_3 := (T4.cell (p := ⟨w.heap.size, 3, none⟩) (by simp only []; omega)).trans kp0_3
  replace kp0_4 := (T4.cell (p := ⟨w.heap.size, 4, none⟩) (by simp only []; omega)).trans kp0_4
  replace kp0_5 := (T4.cell (p := ⟨w.heap.size, 5, none⟩) (by simp only []; omega)).trans kp0_5
  have yw0 : w3_.heap.size < w4_.heap.size := by omega
  have kw0_0 : w4_.cell? ⟨w3_.heap.size, 0, none⟩ = some ((.slice ac_3 ((withdraw hd0 b s).1).n cc_3)) := (hb4.cell (p := ⟨w3_.heap.size, 0, none⟩) (by simp)).trans (by simp)
  have kw0_1 : w4_.cell? ⟨w3_.heap.size, 1, none⟩ = some ((.slice am_3 ((withdraw hd0 b s).1).ms.length cm_3)) := (hb4.cell (p := ⟨w3_.heap.size, 1, none⟩) (by simp)).trans (by simp)
  have kw0_2 : w4_.cell? ⟨w3_.heap.size, 2, none⟩ = some ((.slice ao_3 ((withdraw hd0 b s).1).os.length co_3)) := (hb4.cell (p := ⟨w3_.heap.size, 2, none⟩) (by simp)).trans (by simp)
  have kw0_3 : w4_.cell? ⟨w3_.heap.size, 3, none⟩ = some ((.slice at_3 ((withdraw hd0 b s).1).ts.length ct_3)) := (hb4.cell (p := ⟨w3_.heap.size, 3, none⟩) (by simp)).trans (by simp)
  have kw0_4 : w4_.cell? ⟨w3_.heap.size, 4, none⟩ = some (.int .i64 ((withdraw hd0 b s).1).sent) := (hb4.cell (p := ⟨w3_.heap.size, 4, none⟩) (by simp)).trans (by simp)
  have kw0_5 : w4_.cell? ⟨w3_.heap.size, 5, none⟩ = some (.int .i64 ((withdraw hd0 b s).1).day) := (hb4.cell (p := ⟨w3_.heap.size, 5, none⟩) (by simp)).trans (by simp)
  replace O_w0 := O_w0.below T4
  replace O_w1 := O_w1.below T4
  have D4 := bnext D3 T4
  have O_x0 := (hO4).wide (lo' := w3_.heap.size + 1) (by first | (simp; done) | (simp; omega)) (Nat.le_refl _)
  clear hO4
  clear T4 hb4
  go_wp2_with fail
  refine (implWithdraw _ _ _ _ hd0 b s _ ((O_x0.read hB0).below (balloc (bref _) _)) O_x0.nils hB0).mono ?_
  rintro e w5_ ⟨ac_5, cc_5, am_5, cm_5, ao_5, co_5, at_5, ct_5, al_5, cl_5, rfl, hO5, ⟨p_5, q_5, pa_5, qa_5, hP5, oc_5, om_5, oo_5, ot_5⟩, hb5⟩
  have T5 := bnext (balloc (bref _) _) hb5
  have Z5 : w4_.heap.size + 1 ≤ w5_.heap.size := by have h := hb5.size; simp at h; omega
  replace yp0 : w.heap.size < w5_.heap.size := by omega
  replace kp0_0 := (T5.cell (p := ⟨w.heap.size, 0, none⟩) (by simp only []; omega)).trans kp0_0
  replace kp0_1 := (T5.cell (p := ⟨w.heap.size, 1, none⟩) (by simp only []; omega)).trans kp0_1
  replace kp0_2 := (T5.cell (p := ⟨w.heap.size, 2, none⟩) (by simp only []; omega)).trans kp0_2
  replace kp0_3 := (T5.cell (p := ⟨w.heap.size, 3, none⟩) (by simp only []; omega)).trans kp0_3
  replace kp0_4 := (T5.cell (p := ⟨w.heap.size, 4, none⟩) (by simp only []; omega)).trans kp0_4
  replace kp0_5 := (T5.cell (p := ⟨w.heap.size, 5, none⟩) (by simp only []; omega)).trans kp0_5
  replace yw0 : w3_.heap.size < w5_.heap.size := by omega
  replace kw0_0 := (T5.cell (p := ⟨w3_.heap.size, 0, none⟩) (by simp only []; omega)).trans kw0_0
  replace kw0_1 := (T5.cell (p := ⟨w3_.heap.size, 1, none⟩) (by simp only []; omega)).trans kw0_1
  replace kw0_2 := (T5.cell (p := ⟨w3_.heap.size, 2, none⟩) (by simp only []; omega)).trans kw0_2
  replace kw0_3 := (T5.cell (p := ⟨w3_.heap.size, 3, none⟩) (by simp only []; omega)).trans kw0_3
  replace kw0_4 := (T5.cell (p := ⟨w3_.heap.size, 4, none⟩) (by simp only []; omega)).trans kw0_4
  replace kw0_5 := (T5.cell (p := ⟨w3_.heap.size, 5, none⟩) (by simp only []; omega)).trans kw0_5
  have yx0 : w4_.heap.size < w5_.heap.size := by omega
  have kx0_0 : w5_.cell? ⟨w4_.heap.size, 0, none⟩ = some ((.slice (some ⟨gc_4, 0, none⟩) hd0.n hd0.n)) := (hb5.cell (p := ⟨w4_.heap.size, 0, none⟩) (by simp)).trans (by simp)
  have kx0_1 : w5_.cell? ⟨w4_.heap.size, 1, none⟩ = some ((.slice (some ⟨gm_4, 0, none⟩) hd0.ms.length hd0.ms.length)) := (hb5.cell (p := ⟨w4_.heap.size, 1, none⟩) (by simp)).trans (by simp)
  have kx0_2 : w5_.cell? ⟨w4_.heap.size, 2, none⟩ = some ((.slice (some ⟨go_4, 0, none⟩) hd0.os.length hd0.os.length)) := (hb5.cell (p := ⟨w4_.heap.size, 2, none⟩) (by simp)).trans (by simp)
  have kx0_3 : w5_.cell? ⟨w4_.heap.size, 3, none⟩ = some ((.slice (some ⟨gt_4, 0, none⟩) hd0.ts.length hd0.ts.length)) := (hb5.cell (p := ⟨w4_.heap.size, 3, none⟩) (by simp)).trans (by simp)
  have kx0_4 : w5_.cell? ⟨w4_.heap.size, 4, none⟩ = some (.int .i64 (hd0).sent) := (hb5.cell (p := ⟨w4_.heap.size, 4, none⟩) (by simp)).trans (by simp)
  have kx0_5 : w5_.cell? ⟨w4_.heap.size, 5, none⟩ = some (.int .i64 (hd0).day) := (hb5.cell (p := ⟨w4_.heap.size, 5, none⟩) (by simp)).trans (by simp)
  replace O_w0 := O_w0.below T5
  replace O_w1 := O_w1.below T5
  replace O_x0 := O_x0.below T5
  have D5 := bnext D4 T5
  have O_g0 := (hO5).wide (lo' := w4_.heap.size + 1) (by first | (simp; done) | (simp; omega)) (Nat.le_refl _)
  clear hO5
  have pw_5 : w4_.heap.size + 1 ≤ p_5 := by have h := pa_5; first | omega | (simp at h; omega)
  have O_g1 := hP5
  clear hP5
  clear T5 hb5
  go_wp2_with fail
  refine (eqHouse_same _ _ _ _ _ _ _ _ ((withdraw hd0 b s).1) _ ((O_g0.read hN).below (balloc (bref _) _)) ((O_w0.read hN).below (balloc (bref _) _))).mono ?_
  rintro e w6_ ⟨rfl, hb6⟩
  have T6 := bnext (balloc (bref _) _) hb6
  have Z6 : w5_.heap.size + 1 ≤ w6_.heap.size := by have h := hb6.size; simp at h; omega
  replace yp0 : w.heap.size < w6_.heap.size := by omega
  replace kp0_0 := (T6.cell (p := ⟨w.heap.size, 0, none⟩) (by simp only []; omega)).trans kp0_0
  replace kp0_1 := (T6.cell (p := ⟨w.heap.size, 1, none⟩) (by simp only []; omega)).trans kp0_1
  replace kp0_2 := (T6.cell (p := ⟨w.heap.size, 2, none⟩) (by simp only []; omega)).trans kp0_2
  replace kp0_3 := (T6.cell (p := ⟨w.heap.size, 3, none⟩) (by simp only []; omega)).trans kp0_3
  replace kp0_4 := (T6.cell (p := ⟨w.heap.size, 4, none⟩) (by simp only []; omega)).trans kp0_4
  replace kp0_5 := (T6.cell (p := ⟨w.heap.size, 5, none⟩) (by simp only []; omega)).trans kp0_5
  replace yw0 : w3_.heap.size < w6_.heap.size := by omega
  replace kw0_0 := (T6.cell (p := ⟨w3_.heap.size, 0, none⟩) (by simp only []; omega)).trans kw0_0
  replace kw0_1 := (T6.cell (p := ⟨w3_.heap.size, 1, none⟩) (by simp only []; omega)).trans kw0_1
  replace kw0_2 := (T6.cell (p := ⟨w3_.heap.size, 2, none⟩) (by simp only []; omega)).trans kw0_2
  replace kw0_3 := (T6.cell (p := ⟨w3_.heap.size, 3, none⟩) (by simp only []; omega)).trans kw0_3
  replace kw0_4 := (T6.cell (p := ⟨w3_.heap.size, 4, none⟩) (by simp only []; omega)).trans kw0_4
  replace kw0_5 := (T6.cell (p := ⟨w3_.heap.size, 5, none⟩) (by simp only []; omega)).trans kw0_5
  replace yx0 : w4_.heap.size < w6_.heap.size := by omega
  replace kx0_0 := (T6.cell (p := ⟨w4_.heap.size, 0, none⟩) (by simp only []; omega)).trans kx0_0
  replace kx0_1 := (T6.cell (p := ⟨w4_.heap.size, 1, none⟩) (by simp only []; omega)).trans kx0_1
  replace kx0_2 := (T6.cell (p := ⟨w4_.heap.size, 2, none⟩) (by simp only []; omega)).trans kx0_2
  replace kx0_3 := (T6.cell (p := ⟨w4_.heap.size, 3, none⟩) (by simp only []; omega)).trans kx0_3
  replace kx0_4 := (T6.cell (p := ⟨w4_.heap.size, 4, none⟩) (by simp only []; omega)).trans kx0_4
  replace kx0_5 := (T6.cell (p := ⟨w4_.heap.size, 5, none⟩) (by simp only []; omega)).trans kx0_5
  have yg0 : w5_.heap.size < w6_.heap.size := by omega
  have kg0_0 : w6_.cell? ⟨w5_.heap.size, 0, none⟩ = some ((.slice ac_5 ((withdraw hd0 b s).1).n cc_5)) := (hb6.cell (p := ⟨w5_.heap.size, 0, none⟩) (by simp)).trans (by simp)
  have kg0_1 : w6_.cell? ⟨w5_.heap.size, 1, none⟩ = some ((.slice am_5 ((withdraw hd0 b s).1).ms.length cm_5)) := (hb6.cell (p := ⟨w5_.heap.size, 1, none⟩) (by simp)).trans (by simp)
  have kg0_2 : w6_.cell? ⟨w5_.heap.size, 2, none⟩ = some ((.slice ao_5 ((withdraw hd0 b s).1).os.length co_5)) := (hb6.cell (p := ⟨w5_.heap.size, 2, none⟩) (by simp)).trans (by simp)
  have kg0_3 : w6_.cell? ⟨w5_.heap.size, 3, none⟩ = some ((.slice at_5 ((withdraw hd0 b s).1).ts.length ct_5)) := (hb6.cell (p := ⟨w5_.heap.size, 3, none⟩) (by simp)).trans (by simp)
  have kg0_4 : w6_.cell? ⟨w5_.heap.size, 4, none⟩ = some (.int .i64 ((withdraw hd0 b s).1).sent) := (hb6.cell (p := ⟨w5_.heap.size, 4, none⟩) (by simp)).trans (by simp)
  have kg0_5 : w6_.cell? ⟨w5_.heap.size, 5, none⟩ = some (.int .i64 ((withdraw hd0 b s).1).day) := (hb6.cell (p := ⟨w5_.heap.size, 5, none⟩) (by simp)).trans (by simp)
  replace O_w0 := O_w0.below T6
  replace O_w1 := O_w1.below T6
  replace O_x0 := O_x0.below T6
  replace O_g0 := O_g0.below T6
  replace O_g1 := O_g1.below T6
  have D6 := bnext D5 T6
  clear T6 hb6
  go_wp2_with fail
  refine (eqLetterS_any _ _ ((withdraw hd0 b s).2.1) ((withdraw hd0 b s).2.1) _ (O_g1.read hM) (O_w1.read hM)).mono ?_
  rintro e w7_ ⟨rfl, hb7⟩
  have T7 := hb7
  have Z7 := hb7.size
  replace yp0 : w.heap.size < w7_.heap.size := by omega
  replace kp0_0 := (T7.cell (p := ⟨w.heap.size, 0, none⟩) (by simp only []; omega)).trans kp0_0
  replace kp0_1 := (T7.cell (p := ⟨w.heap.size, 1, none⟩) (by simp only []; omega)).trans kp0_1
  replace kp0_2 := (T7.cell (p := ⟨w.heap.size, 2, none⟩) (by simp only []; omega)).trans kp0_2
  replace kp0_3 := (T7.cell (p := ⟨w.heap.size, 3, none⟩) (by simp only []; omega)).trans kp0_3
  replace kp0_4 := (T7.cell (p := ⟨w.heap.size, 4, none⟩) (by simp only []; omega)).trans kp0_4
  replace kp0_5 := (T7.cell (p := ⟨w.heap.size, 5, none⟩) (by simp only []; omega)).trans kp0_5
  replace yw0 : w3_.heap.size < w7_.heap.size := by omega
  replace kw0_0 := (T7.cell (p := ⟨w3_.heap.size, 0, none⟩) (by simp only []; omega)).trans kw0_0
  replace kw0_1 := (T7.cell (p := ⟨w3_.heap.size, 1, none⟩) (by simp only []; omega)).trans kw0_1
  replace kw0_2 := (T7.cell (p := ⟨w3_.heap.size, 2, none⟩) (by simp only []; omega)).trans kw0_2
  replace kw0_3 := (T7.cell (p := ⟨w3_.heap.size, 3, none⟩) (by simp only []; omega)).trans kw0_3
  replace kw0_4 := (T7.cell (p := ⟨w3_.heap.size, 4, none⟩) (by simp only []; omega)).trans kw0_4
  replace kw0_5 := (T7.cell (p := ⟨w3_.heap.size, 5, none⟩) (by simp only []; omega)).trans kw0_5
  replace yx0 : w4_.heap.size < w7_.heap.size := by omega
  replace kx0_0 := (T7.cell (p := ⟨w4_.heap.size, 0, none⟩) (by simp only []; omega)).trans kx0_0
  replace kx0_1 := (T7.cell (p := ⟨w4_.heap.size, 1, none⟩) (by simp only []; omega)).trans kx0_1
  replace kx0_2 := (T7.cell (p := ⟨w4_.heap.size, 2, none⟩) (by simp only []; omega)).trans kx0_2
  replace kx0_3 := (T7.cell (p := ⟨w4_.heap.size, 3, none⟩) (by simp only []; omega)).trans kx0_3
  replace kx0_4 := (T7.cell (p := ⟨w4_.heap.size, 4, none⟩) (by simp only []; omega)).trans kx0_4
  replace kx0_5 := (T7.cell (p := ⟨w4_.heap.size, 5, none⟩) (by simp only []; omega)).trans kx0_5
  replace yg0 : w5_.heap.size < w7_.heap.size := by omega
  replace kg0_0 := (T7.cell (p := ⟨w5_.heap.size, 0, none⟩) (by simp only []; omega)).trans kg0_0
  replace kg0_1 := (T7.cell (p := ⟨w5_.heap.size, 1, none⟩) (by simp only []; omega)).trans kg0_1
  replace kg0_2 := (T7.cell (p := ⟨w5_.heap.size, 2, none⟩) (by simp only []; omega)).trans kg0_2
  replace kg0_3 := (T7.cell (p := ⟨w5_.heap.size, 3, none⟩) (by simp only []; omega)).trans kg0_3
  replace kg0_4 := (T7.cell (p := ⟨w5_.heap.size, 4, none⟩) (by simp only []; omega)).trans kg0_4
  replace kg0_5 := (T7.cell (p := ⟨w5_.heap.size, 5, none⟩) (by simp only []; omega)).trans kg0_5
  replace O_w0 := O_w0.below T7
  replace O_w1 := O_w1.below T7
  replace O_x0 := O_x0.below T7
  replace O_g0 := O_g0.below T7
  replace O_g1 := O_g1.below T7
  have D7 := bnext D6 T7
  clear T7 hb7
  go_wp2_with fail
  have RP_ := (h0.below D7)
  have RX_ := (O_x0.read hB0)
  have MK : Hid (∀ w', Below w7_.heap.size w7_ w' → w'.cell? ⟨w4_.heap.size, 0, none⟩ = some ((.slice (some ⟨gc_4, 0, none⟩) hd0.n hd0.n)) ∧ w'.cell? ⟨w4_.heap.size, 1, none⟩ = some ((.slice (some ⟨gm_4, 0, none⟩) hd0.ms.length hd0.ms.length)) ∧ w'.cell? ⟨w4_.heap.size, 2, none⟩ = some ((.slice (some ⟨go_4, 0, none⟩) hd0.os.length hd0.os.length)) ∧ w'.cell? ⟨w4_.heap.size, 3, none⟩ = some ((.slice (some ⟨gt_4, 0, none⟩) hd0.ts.length hd0.ts.length)) ∧ w'.cell? ⟨w4_.heap.size, 4, none⟩ = some (.int .i64 (hd0).sent) ∧ w'.cell? ⟨w4_.heap.size, 5, none⟩ = some (.int .i64 (hd0).day) ∧ w'.cell? ⟨w.heap.size, 0, none⟩ = some ((.slice adc0 hd0.n capc0)) ∧ w'.cell? ⟨w.heap.size, 1, none⟩ = some ((.slice adm0 hd0.ms.length capm0)) ∧ w'.cell? ⟨w.heap.size, 2, none⟩ = some ((.slice ado0 hd0.os.length capo0)) ∧ w'.cell? ⟨w.heap.size, 3, none⟩ = some ((.slice adt0 hd0.ts.length capt0)) ∧ w'.cell? ⟨w.heap.size, 4, none⟩ = some (.int .i64 (hd0).sent) ∧ w'.cell? ⟨w.heap.size, 5, none⟩ = some (.int .i64 (hd0).day) ∧ HouseR w' (.slice adc0 hd0.n capc0) (.slice adm0 hd0.ms.length capm0) (.slice ado0 hd0.os.length capo0) (.slice adt0 hd0.ts.length capt0) (hd0) ∧ HouseR w' (.slice (some ⟨gc_4, 0, none⟩) hd0.n hd0.n) (.slice (some ⟨gm_4, 0, none⟩) hd0.ms.length hd0.ms.length) (.slice (some ⟨go_4, 0, none⟩) hd0.os.length hd0.os.length) (.slice (some ⟨gt_4, 0, none⟩) hd0.ts.length hd0.ts.length) (hd0) ∧ Below w7_.heap.size w7_ w') :=
    fun w' hb => ⟨(hb.cell (p := ⟨w4_.heap.size, 0, none⟩) (by simp only []; omega)).trans kx0_0, (hb.cell (p := ⟨w4_.heap.size, 1, none⟩) (by simp only []; omega)).trans kx0_1, (hb.cell (p := ⟨w4_.heap.size, 2, none⟩) (by simp only []; omega)).trans kx0_2, (hb.cell (p := ⟨w4_.heap.size, 3, none⟩) (by simp only []; omega)).trans kx0_3, (hb.cell (p := ⟨w4_.heap.size, 4, none⟩) (by simp only []; omega)).trans kx0_4, (hb.cell (p := ⟨w4_.heap.size, 5, none⟩) (by simp only []; omega)).trans kx0_5, (hb.cell (p := ⟨w.heap.size, 0, none⟩) (by simp only []; omega)).trans kp0_0, (hb.cell (p := ⟨w.heap.size, 1, none⟩) (by simp only []; omega)).trans kp0_1, (hb.cell (p := ⟨w.heap.size, 2, none⟩) (by simp only []; omega)).trans kp0_2, (hb.cell (p := ⟨w.heap.size, 3, none⟩) (by simp only []; omega)).trans kp0_3, (hb.cell (p := ⟨w.heap.size, 4, none⟩) (by simp only []; omega)).trans kp0_4, (hb.cell (p := ⟨w.heap.size, 5, none⟩) (by simp only []; omega)).trans kp0_5, RP_.below hb, RX_.below hb, hb⟩
  clear RP_ RX_
  go_wp2_with fail
  go_region_held3 (fun w' => w'.cell? ⟨w4_.heap.size, 0, none⟩ = some ((.slice (some ⟨gc_4, 0, none⟩) hd0.n hd0.n)) ∧ w'.cell? ⟨w4_.heap.size, 1, none⟩ = some ((.slice (some ⟨gm_4, 0, none⟩) hd0.ms.length hd0.ms.length)) ∧ w'.cell? ⟨w4_.heap.size, 2, none⟩ = some ((.slice (some ⟨go_4, 0, none⟩) hd0.os.length hd0.os.length)) ∧ w'.cell? ⟨w4_.heap.size, 3, none⟩ = some ((.slice (some ⟨gt_4, 0, none⟩) hd0.ts.length hd0.ts.length)) ∧ w'.cell? ⟨w4_.heap.size, 4, none⟩ = some (.int .i64 (hd0).sent) ∧ w'.cell? ⟨w4_.heap.size, 5, none⟩ = some (.int .i64 (hd0).day) ∧ w'.cell? ⟨w.heap.size, 0, none⟩ = some ((.slice adc0 hd0.n capc0)) ∧ w'.cell? ⟨w.heap.size, 1, none⟩ = some ((.slice adm0 hd0.ms.length capm0)) ∧ w'.cell? ⟨w.heap.size, 2, none⟩ = some ((.slice ado0 hd0.os.length capo0)) ∧ w'.cell? ⟨w.heap.size, 3, none⟩ = some ((.slice adt0 hd0.ts.length capt0)) ∧ w'.cell? ⟨w.heap.size, 4, none⟩ = some (.int .i64 (hd0).sent) ∧ w'.cell? ⟨w.heap.size, 5, none⟩ = some (.int .i64 (hd0).day) ∧ HouseR w' (.slice adc0 hd0.n capc0) (.slice adm0 hd0.ms.length capm0) (.slice ado0 hd0.os.length capo0) (.slice adt0 hd0.ts.length capt0) (hd0) ∧ HouseR w' (.slice (some ⟨gc_4, 0, none⟩) hd0.n hd0.n) (.slice (some ⟨gm_4, 0, none⟩) hd0.ms.length hd0.ms.length) (.slice (some ⟨go_4, 0, none⟩) hd0.os.length hd0.os.length) (.slice (some ⟨gt_4, 0, none⟩) hd0.ts.length hd0.ts.length) (hd0) ∧ Below w7_.heap.size w7_ w')
    (first | exact MK.out _ (bdrew (bref _)) | (go_split_ands; exact MK.out _ (bnext (by assumption) hb8)) | (go_split_ands; exact MK.out _ (bnext (by assumption) hb9)))
    (first | (go_at_call 45; go_split_ands; refine (toHouse_any _ _ _ _ (hd0) _ (by assumption) hB0).mono ?_; rintro e w8_ ⟨gc_8, gm_8, go_8, gt_8, rfl, hO8, hb8⟩)
           | (go_at_call 47; go_split_ands; refine (eqHouse_same _ _ _ _ _ _ _ _ (hd0) _ (by assumption) ((hO8).read hB0)).mono ?_; rintro e w9_ ⟨rfl, hb9⟩))
  go_split_ands
  have hbq : Below w7_.heap.size w7_ w9_ := by assumption
  clear hb9
  have hb9 := hbq
  clear hbq MK
  have T9 := hb9
  have Z9 := hb9.size
  replace yp0 : w.heap.size < w9_.heap.size := by omega
  replace kp0_0 := (T9.cell (p := ⟨w.heap.size, 0, none⟩) (by simp only []; omega)).trans kp0_0
  replace kp0_1 := (T9.cell (p := ⟨w.heap.size, 1, none⟩) (by simp only []; omega)).trans kp0_1
  replace kp0_2 := (T9.cell (p := ⟨w.heap.size, 2, none⟩) (by simp only []; omega)).trans kp0_2
  replace kp0_3 := (T9.cell (p := ⟨w.heap.size, 3, none⟩) (by simp only []; omega)).trans kp0_3
  replace kp0_4 := (T9.cell (p := ⟨w.heap.size, 4, none⟩) (by simp only []; omega)).trans kp0_4
  replace kp0_5 := (T9.cell (p := ⟨w.heap.size, 5, none⟩) (by simp only []; omega)).trans kp0_5
  replace yw0 : w3_.heap.size < w9_.heap.size := by omega
  replace kw0_0 := (T9.cell (p := ⟨w3_.heap.size, 0, none⟩) (by simp only []; omega)).trans kw0_0
  replace kw0_1 := (T9.cell (p := ⟨w3_.heap.size, 1, none⟩) (by simp only []; omega)).trans kw0_1
  replace kw0_2 := (T9.cell (p := ⟨w3_.heap.size, 2, none⟩) (by simp only []; omega)).trans kw0_2
  replace kw0_3 := (T9.cell (p := ⟨w3_.heap.size, 3, none⟩) (by simp only []; omega)).trans kw0_3
  replace kw0_4 := (T9.cell (p := ⟨w3_.heap.size, 4, none⟩) (by simp only []; omega)).trans kw0_4
  replace kw0_5 := (T9.cell (p := ⟨w3_.heap.size, 5, none⟩) (by simp only []; omega)).trans kw0_5
  replace yx0 : w4_.heap.size < w9_.heap.size := by omega
  replace kx0_0 := (T9.cell (p := ⟨w4_.heap.size, 0, none⟩) (by simp only []; omega)).trans kx0_0
  replace kx0_1 := (T9.cell (p := ⟨w4_.heap.size, 1, none⟩) (by simp only []; omega)).trans kx0_1
  replace kx0_2 := (T9.cell (p := ⟨w4_.heap.size, 2, none⟩) (by simp only []; omega)).trans kx0_2
  replace kx0_3 := (T9.cell (p := ⟨w4_.heap.size, 3, none⟩) (by simp only []; omega)).trans kx0_3
  replace kx0_4 := (T9.cell (p := ⟨w4_.heap.size, 4, none⟩) (by simp only []; omega)).trans kx0_4
  replace kx0_5 := (T9.cell (p := ⟨w4_.heap.size, 5, none⟩) (by simp only []; omega)).trans kx0_5
  replace yg0 : w5_.heap.size < w9_.heap.size := by omega
  replace kg0_0 := (T9.cell (p := ⟨w5_.heap.size, 0, none⟩) (by simp only []; omega)).trans kg0_0
  replace kg0_1 := (T9.cell (p := ⟨w5_.heap.size, 1, none⟩) (by simp only []; omega)).trans kg0_1
  replace kg0_2 := (T9.cell (p := ⟨w5_.heap.size, 2, none⟩) (by simp only []; omega)).trans kg0_2
  replace kg0_3 := (T9.cell (p := ⟨w5_.heap.size, 3, none⟩) (by simp only []; omega)).trans kg0_3
  replace kg0_4 := (T9.cell (p := ⟨w5_.heap.size, 4, none⟩) (by simp only []; omega)).trans kg0_4
  replace kg0_5 := (T9.cell (p := ⟨w5_.heap.size, 5, none⟩) (by simp only []; omega)).trans kg0_5
  replace O_w0 := O_w0.below T9
  replace O_w1 := O_w1.below T9
  replace O_x0 := O_x0.below T9
  replace O_g0 := O_g0.below T9
  replace O_g1 := O_g1.below T9
  have D9 := bnext D7 T9
  clear T9 hb9
  go_wp2_with fail
  refine (markHouse_any _ _ _ _ (hd0) (1) _ _ _ O_x0 hB0 (by omega) (by omega)).mono ?_
  rintro e w10_ ⟨rfl, hO10, hb10⟩
  have T10 := hb10
  have Z10 := T10.size
  replace yp0 : w.heap.size < w10_.heap.size := by omega
  replace kp0_0 := (World.cell?_of_block (T10.block w.heap.size (by omega) (by omega))).trans kp0_0
  replace kp0_1 := (World.cell?_of_block (T10.block w.heap.size (by omega) (by omega))).trans kp0_1
  replace kp0_2 := (World.cell?_of_block (T10.block w.heap.size (by omega) (by omega))).trans kp0_2
  replace kp0_3 := (World.cell?_of_block (T10.block w.heap.size (by omega) (by omega))).trans kp0_3
  replace kp0_4 := (World.cell?_of_block (T10.block w.heap.size (by omega) (by omega))).trans kp0_4
  replace kp0_5 := (World.cell?_of_block (T10.block w.heap.size (by omega) (by omega))).trans kp0_5
  replace yw0 : w3_.heap.size < w10_.heap.size := by omega
  replace kw0_0 := (World.cell?_of_block (T10.block w3_.heap.size (by omega) (by omega))).trans kw0_0
  replace kw0_1 := (World.cell?_of_block (T10.block w3_.heap.size (by omega) (by omega))).trans kw0_1
  replace kw0_2 := (World.cell?_of_block (T10.block w3_.heap.size (by omega) (by omega))).trans kw0_2
  replace kw0_3 := (World.cell?_of_block (T10.block w3_.heap.size (by omega) (by omega))).trans kw0_3
  replace kw0_4 := (World.cell?_of_block (T10.block w3_.heap.size (by omega) (by omega))).trans kw0_4
  replace kw0_5 := (World.cell?_of_block (T10.block w3_.heap.size (by omega) (by omega))).trans kw0_5
  replace yx0 : w4_.heap.size < w10_.heap.size := by omega
  replace kx0_0 := (World.cell?_of_block (T10.block w4_.heap.size (by omega) (by omega))).trans kx0_0
  replace kx0_1 := (World.cell?_of_block (T10.block w4_.heap.size (by omega) (by omega))).trans kx0_1
  replace kx0_2 := (World.cell?_of_block (T10.block w4_.heap.size (by omega) (by omega))).trans kx0_2
  replace kx0_3 := (World.cell?_of_block (T10.block w4_.heap.size (by omega) (by omega))).trans kx0_3
  replace kx0_4 := (World.cell?_of_block (T10.block w4_.heap.size (by omega) (by omega))).trans kx0_4
  replace kx0_5 := (World.cell?_of_block (T10.block w4_.heap.size (by omega) (by omega))).trans kx0_5
  replace yg0 : w5_.heap.size < w10_.heap.size := by omega
  replace kg0_0 := (World.cell?_of_block (T10.block w5_.heap.size (by omega) (by omega))).trans kg0_0
  replace kg0_1 := (World.cell?_of_block (T10.block w5_.heap.size (by omega) (by omega))).trans kg0_1
  replace kg0_2 := (World.cell?_of_block (T10.block w5_.heap.size (by omega) (by omega))).trans kg0_2
  replace kg0_3 := (World.cell?_of_block (T10.block w5_.heap.size (by omega) (by omega))).trans kg0_3
  replace kg0_4 := (World.cell?_of_block (T10.block w5_.heap.size (by omega) (by omega))).trans kg0_4
  replace kg0_5 := (World.cell?_of_block (T10.block w5_.heap.size (by omega) (by omega))).trans kg0_5
  replace O_w0 := O_w0.only T10 (by unfold Off; omega)
  replace O_w1 := O_w1.only T10 (by unfold Off; omega)
  replace O_g0 := O_g0.only T10 (by unfold Off; omega)
  replace O_g1 := O_g1.only T10 (by unfold Off; omega)
  have D10 := Only.below D9 T10 (by omega)
  replace O_x0 := hO10
  clear hO10
  clear T10 hb10
  go_wp2_with fail
  refine (eqHouse_same _ _ _ _ _ _ _ _ ((withdraw hd0 b s).1) _ (O_g0.read hN) (O_w0.read hN)).mono ?_
  rintro e w11_ ⟨rfl, hb11⟩
  have T11 := hb11
  have Z11 := hb11.size
  replace yp0 : w.heap.size < w11_.heap.size := by omega
  replace kp0_0 := (T11.cell (p := ⟨w.heap.size, 0, none⟩) (by simp only []; omega)).trans kp0_0
  replace kp0_1 := (T11.cell (p := ⟨w.heap.size, 1, none⟩) (by simp only []; omega)).trans kp0_1
  replace kp0_2 := (T11.cell (p := ⟨w.heap.size, 2, none⟩) (by simp only []; omega)).trans kp0_2
  replace kp0_3 := (T11.cell (p := ⟨w.heap.size, 3, none⟩) (by simp only []; omega)).trans kp0_3
  replace kp0_4 := (T11.cell (p := ⟨w.heap.size, 4, none⟩) (by simp only []; omega)).trans kp0_4
  replace kp0_5 := (T11.cell (p := ⟨w.heap.size, 5, none⟩) (by simp only []; omega)).trans kp0_5
  replace yw0 : w3_.heap.size < w11_.heap.size := by omega
  replace kw0_0 := (T11.cell (p := ⟨w3_.heap.size, 0, none⟩) (by simp only []; omega)).trans kw0_0
  replace kw0_1 := (T11.cell (p := ⟨w3_.heap.size, 1, none⟩) (by simp only []; omega)).trans kw0_1
  replace kw0_2 := (T11.cell (p := ⟨w3_.heap.size, 2, none⟩) (by simp only []; omega)).trans kw0_2
  replace kw0_3 := (T11.cell (p := ⟨w3_.heap.size, 3, none⟩) (by simp only []; omega)).trans kw0_3
  replace kw0_4 := (T11.cell (p := ⟨w3_.heap.size, 4, none⟩) (by simp only []; omega)).trans kw0_4
  replace kw0_5 := (T11.cell (p := ⟨w3_.heap.size, 5, none⟩) (by simp only []; omega)).trans kw0_5
  replace yx0 : w4_.heap.size < w11_.heap.size := by omega
  replace kx0_0 := (T11.cell (p := ⟨w4_.heap.size, 0, none⟩) (by simp only []; omega)).trans kx0_0
  replace kx0_1 := (T11.cell (p := ⟨w4_.heap.size, 1, none⟩) (by simp only []; omega)).trans kx0_1
  replace kx0_2 := (T11.cell (p := ⟨w4_.heap.size, 2, none⟩) (by simp only []; omega)).trans kx0_2
  replace kx0_3 := (T11.cell (p := ⟨w4_.heap.size, 3, none⟩) (by simp only []; omega)).trans kx0_3
  replace kx0_4 := (T11.cell (p := ⟨w4_.heap.size, 4, none⟩) (by simp only []; omega)).trans kx0_4
  replace kx0_5 := (T11.cell (p := ⟨w4_.heap.size, 5, none⟩) (by simp only []; omega)).trans kx0_5
  replace yg0 : w5_.heap.size < w11_.heap.size := by omega
  replace kg0_0 := (T11.cell (p := ⟨w5_.heap.size, 0, none⟩) (by simp only []; omega)).trans kg0_0
  replace kg0_1 := (T11.cell (p := ⟨w5_.heap.size, 1, none⟩) (by simp only []; omega)).trans kg0_1
  replace kg0_2 := (T11.cell (p := ⟨w5_.heap.size, 2, none⟩) (by simp only []; omega)).trans kg0_2
  replace kg0_3 := (T11.cell (p := ⟨w5_.heap.size, 3, none⟩) (by simp only []; omega)).trans kg0_3
  replace kg0_4 := (T11.cell (p := ⟨w5_.heap.size, 4, none⟩) (by simp only []; omega)).trans kg0_4
  replace kg0_5 := (T11.cell (p := ⟨w5_.heap.size, 5, none⟩) (by simp only []; omega)).trans kg0_5
  replace O_w0 := O_w0.below T11
  replace O_w1 := O_w1.below T11
  replace O_x0 := O_x0.below T11
  replace O_g0 := O_g0.below T11
  replace O_g1 := O_g1.below T11
  have D11 := bnext D10 T11
  clear T11 hb11
  go_wp2_with fail
  refine (eqLetterS_any _ _ ((withdraw hd0 b s).2.1) ((withdraw hd0 b s).2.1) _ (O_g1.read hM) (O_w1.read hM)).mono ?_
  rintro e w12_ ⟨rfl, hb12⟩
  have T12 := hb12
  have Z12 := hb12.size
  replace yp0 : w.heap.size < w12_.heap.size := by omega
  replace kp0_0 := (T12.cell (p := ⟨w.heap.size, 0, none⟩) (by simp only []; omega)).trans kp0_0
  replace kp0_1 := (T12.cell (p := ⟨w.heap.size, 1, none⟩) (by simp only []; omega)).trans kp0_1
  replace kp0_2 := (T12.cell (p := ⟨w.heap.size, 2, none⟩) (by simp only []; omega)).trans kp0_2
  replace kp0_3 := (T12.cell (p := ⟨w.heap.size, 3, none⟩) (by simp only []; omega)).trans kp0_3
  replace kp0_4 := (T12.cell (p := ⟨w.heap.size, 4, none⟩) (by simp only []; omega)).trans kp0_4
  replace kp0_5 := (T12.cell (p := ⟨w.heap.size, 5, none⟩) (by simp only []; omega)).trans kp0_5
  replace yw0 : w3_.heap.size < w12_.heap.size := by omega
  replace kw0_0 := (T12.cell (p := ⟨w3_.heap.size, 0, none⟩) (by simp only []; omega)).trans kw0_0
  replace kw0_1 := (T12.cell (p := ⟨w3_.heap.size, 1, none⟩) (by simp only []; omega)).trans kw0_1
  replace kw0_2 := (T12.cell (p := ⟨w3_.heap.size, 2, none⟩) (by simp only []; omega)).trans kw0_2
  replace kw0_3 := (T12.cell (p := ⟨w3_.heap.size, 3, none⟩) (by simp only []; omega)).trans kw0_3
  replace kw0_4 := (T12.cell (p := ⟨w3_.heap.size, 4, none⟩) (by simp only []; omega)).trans kw0_4
  replace kw0_5 := (T12.cell (p := ⟨w3_.heap.size, 5, none⟩) (by simp only []; omega)).trans kw0_5
  replace yx0 : w4_.heap.size < w12_.heap.size := by omega
  replace kx0_0 := (T12.cell (p := ⟨w4_.heap.size, 0, none⟩) (by simp only []; omega)).trans kx0_0
  replace kx0_1 := (T12.cell (p := ⟨w4_.heap.size, 1, none⟩) (by simp only []; omega)).trans kx0_1
  replace kx0_2 := (T12.cell (p := ⟨w4_.heap.size, 2, none⟩) (by simp only []; omega)).trans kx0_2
  replace kx0_3 := (T12.cell (p := ⟨w4_.heap.size, 3, none⟩) (by simp only []; omega)).trans kx0_3
  replace kx0_4 := (T12.cell (p := ⟨w4_.heap.size, 4, none⟩) (by simp only []; omega)).trans kx0_4
  replace kx0_5 := (T12.cell (p := ⟨w4_.heap.size, 5, none⟩) (by simp only []; omega)).trans kx0_5
  replace yg0 : w5_.heap.size < w12_.heap.size := by omega
  replace kg0_0 := (T12.cell (p := ⟨w5_.heap.size, 0, none⟩) (by simp only []; omega)).trans kg0_0
  replace kg0_1 := (T12.cell (p := ⟨w5_.heap.size, 1, none⟩) (by simp only []; omega)).trans kg0_1
  replace kg0_2 := (T12.cell (p := ⟨w5_.heap.size, 2, none⟩) (by simp only []; omega)).trans kg0_2
  replace kg0_3 := (T12.cell (p := ⟨w5_.heap.size, 3, none⟩) (by simp only []; omega)).trans kg0_3
  replace kg0_4 := (T12.cell (p := ⟨w5_.heap.size, 4, none⟩) (by simp only []; omega)).trans kg0_4
  replace kg0_5 := (T12.cell (p := ⟨w5_.heap.size, 5, none⟩) (by simp only []; omega)).trans kg0_5
  replace O_w0 := O_w0.below T12
  replace O_w1 := O_w1.below T12
  replace O_x0 := O_x0.below T12
  replace O_g0 := O_g0.below T12
  replace O_g1 := O_g1.below T12
  have D12 := bnext D11 T12
  clear T12 hb12
  go_wp2_with fail
  clear O_x0
  clear kx0_0 kx0_1 kx0_2 kx0_3 kx0_4 kx0_5 yx0
  refine (markHouse_w _ _ _ _ _ ((withdraw hd0 b s).1) _ (1) _ _ _ _ _ O_g0 hN (by omega) (by omega) O_g1 oc_5 om_5 oo_5 ot_5).mono ?_
  rintro e w13_ ⟨rfl, hO13, hP13, hb13⟩
  have T13 := hb13
  have Z13 := T13.size
  replace yp0 : w.heap.size < w13_.heap.size := by omega
  replace kp0_0 := (World.cell?_of_block (T13.block w.heap.size (by omega) (by omega))).trans kp0_0
  replace kp0_1 := (World.cell?_of_block (T13.block w.heap.size (by omega) (by omega))).trans kp0_1
  replace kp0_2 := (World.cell?_of_block (T13.block w.heap.size (by omega) (by omega))).trans kp0_2
  replace kp0_3 := (World.cell?_of_block (T13.block w.heap.size (by omega) (by omega))).trans kp0_3
  replace kp0_4 := (World.cell?_of_block (T13.block w.heap.size (by omega) (by omega))).trans kp0_4
  replace kp0_5 := (World.cell?_of_block (T13.block w.heap.size (by omega) (by omega))).trans kp0_5
  replace yw0 : w3_.heap.size < w13_.heap.size := by omega
  replace kw0_0 := (World.cell?_of_block (T13.block w3_.heap.size (by omega) (by omega))).trans kw0_0
  replace kw0_1 := (World.cell?_of_block (T13.block w3_.heap.size (by omega) (by omega))).trans kw0_1
  replace kw0_2 := (World.cell?_of_block (T13.block w3_.heap.size (by omega) (by omega))).trans kw0_2
  replace kw0_3 := (World.cell?_of_block (T13.block w3_.heap.size (by omega) (by omega))).trans kw0_3
  replace kw0_4 := (World.cell?_of_block (T13.block w3_.heap.size (by omega) (by omega))).trans kw0_4
  replace kw0_5 := (World.cell?_of_block (T13.block w3_.heap.size (by omega) (by omega))).trans kw0_5
  replace yg0 : w5_.heap.size < w13_.heap.size := by omega
  replace kg0_0 := (World.cell?_of_block (T13.block w5_.heap.size (by omega) (by omega))).trans kg0_0
  replace kg0_1 := (World.cell?_of_block (T13.block w5_.heap.size (by omega) (by omega))).trans kg0_1
  replace kg0_2 := (World.cell?_of_block (T13.block w5_.heap.size (by omega) (by omega))).trans kg0_2
  replace kg0_3 := (World.cell?_of_block (T13.block w5_.heap.size (by omega) (by omega))).trans kg0_3
  replace kg0_4 := (World.cell?_of_block (T13.block w5_.heap.size (by omega) (by omega))).trans kg0_4
  replace kg0_5 := (World.cell?_of_block (T13.block w5_.heap.size (by omega) (by omega))).trans kg0_5
  replace O_w0 := O_w0.only T13 (by unfold Off; omega)
  replace O_w1 := O_w1.only T13 (by unfold Off; omega)
  have D13 := Only.below D12 T13 (by omega)
  replace O_g0 := hO13
  replace O_g1 := hP13
  clear hO13 hP13
  clear T13 hb13
  go_wp2_with fail
  refine (markLetterS_o _ ((withdraw hd0 b s).2.1) (1 + (((withdraw hd0 b s).1).bulk : Int)) _ _ _ O_g1 hM (by omega) (by omega)).mono ?_
  rintro e w14_ ⟨rfl, hO14, hb14⟩
  have T14 := hb14
  have Z14 := T14.size
  replace yp0 : w.heap.size < w14_.heap.size := by omega
  replace kp0_0 := (World.cell?_of_block (T14.block w.heap.size (by omega) (by omega))).trans kp0_0
  replace kp0_1 := (World.cell?_of_block (T14.block w.heap.size (by omega) (by omega))).trans kp0_1
  replace kp0_2 := (World.cell?_of_block (T14.block w.heap.size (by omega) (by omega))).trans kp0_2
  replace kp0_3 := (World.cell?_of_block (T14.block w.heap.size (by omega) (by omega))).trans kp0_3
  replace kp0_4 := (World.cell?_of_block (T14.block w.heap.size (by omega) (by omega))).trans kp0_4
  replace kp0_5 := (World.cell?_of_block (T14.block w.heap.size (by omega) (by omega))).trans kp0_5
  replace yw0 : w3_.heap.size < w14_.heap.size := by omega
  replace kw0_0 := (World.cell?_of_block (T14.block w3_.heap.size (by omega) (by omega))).trans kw0_0
  replace kw0_1 := (World.cell?_of_block (T14.block w3_.heap.size (by omega) (by omega))).trans kw0_1
  replace kw0_2 := (World.cell?_of_block (T14.block w3_.heap.size (by omega) (by omega))).trans kw0_2
  replace kw0_3 := (World.cell?_of_block (T14.block w3_.heap.size (by omega) (by omega))).trans kw0_3
  replace kw0_4 := (World.cell?_of_block (T14.block w3_.heap.size (by omega) (by omega))).trans kw0_4
  replace kw0_5 := (World.cell?_of_block (T14.block w3_.heap.size (by omega) (by omega))).trans kw0_5
  replace yg0 : w5_.heap.size < w14_.heap.size := by omega
  replace kg0_0 := (World.cell?_of_block (T14.block w5_.heap.size (by omega) (by omega))).trans kg0_0
  replace kg0_1 := (World.cell?_of_block (T14.block w5_.heap.size (by omega) (by omega))).trans kg0_1
  replace kg0_2 := (World.cell?_of_block (T14.block w5_.heap.size (by omega) (by omega))).trans kg0_2
  replace kg0_3 := (World.cell?_of_block (T14.block w5_.heap.size (by omega) (by omega))).trans kg0_3
  replace kg0_4 := (World.cell?_of_block (T14.block w5_.heap.size (by omega) (by omega))).trans kg0_4
  replace kg0_5 := (World.cell?_of_block (T14.block w5_.heap.size (by omega) (by omega))).trans kg0_5
  replace O_w0 := O_w0.only T14 (by unfold Off; omega)
  replace O_w1 := O_w1.only T14 (by unfold Off; omega)
  have D14 := Only.below D13 T14 (by omega)
  replace O_g0 := O_g0.out T14 oc_5 om_5 oo_5 ot_5
  replace O_g1 := hO14
  clear hO14
  clear T14 hb14
  go_wp2_with fail
  refine (heldHouse_any _ _ _ _ ((withdraw hd0 b s).1) (1) _ _ _ O_g0 hN (by omega) (by omega)).mono ?_
  rintro e w15_ ⟨rfl, hb15⟩
  have T15 := hb15
  have Z15 := hb15.size
  replace yp0 : w.heap.size < w15_.heap.size := by omega
  replace kp0_0 := (T15.cell (p := ⟨w.heap.size, 0, none⟩) (by simp only []; omega)).trans kp0_0
  replace kp0_1 := (T15.cell (p := ⟨w.heap.size, 1, none⟩) (by simp only []; omega)).trans kp0_1
  replace kp0_2 := (T15.cell (p := ⟨w.heap.size, 2, none⟩) (by simp only []; omega)).trans kp0_2
  replace kp0_3 := (T15.cell (p := ⟨w.heap.size, 3, none⟩) (by simp only []; omega)).trans kp0_3
  replace kp0_4 := (T15.cell (p := ⟨w.heap.size, 4, none⟩) (by simp only []; omega)).trans kp0_4
  replace kp0_5 := (T15.cell (p := ⟨w.heap.size, 5, none⟩) (by simp only []; omega)).trans kp0_5
  replace yw0 : w3_.heap.size < w15_.heap.size := by omega
  replace kw0_0 := (T15.cell (p := ⟨w3_.heap.size, 0, none⟩) (by simp only []; omega)).trans kw0_0
  replace kw0_1 := (T15.cell (p := ⟨w3_.heap.size, 1, none⟩) (by simp only []; omega)).trans kw0_1
  replace kw0_2 := (T15.cell (p := ⟨w3_.heap.size, 2, none⟩) (by simp only []; omega)).trans kw0_2
  replace kw0_3 := (T15.cell (p := ⟨w3_.heap.size, 3, none⟩) (by simp only []; omega)).trans kw0_3
  replace kw0_4 := (T15.cell (p := ⟨w3_.heap.size, 4, none⟩) (by simp only []; omega)).trans kw0_4
  replace kw0_5 := (T15.cell (p := ⟨w3_.heap.size, 5, none⟩) (by simp only []; omega)).trans kw0_5
  replace yg0 : w5_.heap.size < w15_.heap.size := by omega
  replace kg0_0 := (T15.cell (p := ⟨w5_.heap.size, 0, none⟩) (by simp only []; omega)).trans kg0_0
  replace kg0_1 := (T15.cell (p := ⟨w5_.heap.size, 1, none⟩) (by simp only []; omega)).trans kg0_1
  replace kg0_2 := (T15.cell (p := ⟨w5_.heap.size, 2, none⟩) (by simp only []; omega)).trans kg0_2
  replace kg0_3 := (T15.cell (p := ⟨w5_.heap.size, 3, none⟩) (by simp only []; omega)).trans kg0_3
  replace kg0_4 := (T15.cell (p := ⟨w5_.heap.size, 4, none⟩) (by simp only []; omega)).trans kg0_4
  replace kg0_5 := (T15.cell (p := ⟨w5_.heap.size, 5, none⟩) (by simp only []; omega)).trans kg0_5
  replace O_w0 := O_w0.below T15
  replace O_w1 := O_w1.below T15
  replace O_g1 := O_g1.below T15
  replace O_g0 := O_g0.below T15
  have D15 := bnext D14 T15
  clear T15 hb15
  go_wp2_with fail
  refine (heldLetterS_o _ ((withdraw hd0 b s).2.1) (1 + (((withdraw hd0 b s).1).bulk : Int)) _ _ _ O_g1 hM (by omega) (by omega)).mono ?_
  rintro e w16_ ⟨rfl, hb16⟩
  have T16 := hb16
  have Z16 := hb16.size
  replace yp0 : w.heap.size < w16_.heap.size := by omega
  replace kp0_0 := (T16.cell (p := ⟨w.heap.size, 0, none⟩) (by simp only []; omega)).trans kp0_0
  replace kp0_1 := (T16.cell (p := ⟨w.heap.size, 1, none⟩) (by simp only []; omega)).trans kp0_1
  replace kp0_2 := (T16.cell (p := ⟨w.heap.size, 2, none⟩) (by simp only []; omega)).trans kp0_2
  replace kp0_3 := (T16.cell (p := ⟨w.heap.size, 3, none⟩) (by simp only []; omega)).trans kp0_3
  replace kp0_4 := (T16.cell (p := ⟨w.heap.size, 4, none⟩) (by simp only []; omega)).trans kp0_4
  replace kp0_5 := (T16.cell (p := ⟨w.heap.size, 5, none⟩) (by simp only []; omega)).trans kp0_5
  replace yw0 : w3_.heap.size < w16_.heap.size := by omega
  replace kw0_0 := (T16.cell (p := ⟨w3_.heap.size, 0, none⟩) (by simp only []; omega)).trans kw0_0
  replace kw0_1 := (T16.cell (p := ⟨w3_.heap.size, 1, none⟩) (by simp only []; omega)).trans kw0_1
  replace kw0_2 := (T16.cell (p := ⟨w3_.heap.size, 2, none⟩) (by simp only []; omega)).trans kw0_2
  replace kw0_3 := (T16.cell (p := ⟨w3_.heap.size, 3, none⟩) (by simp only []; omega)).trans kw0_3
  replace kw0_4 := (T16.cell (p := ⟨w3_.heap.size, 4, none⟩) (by simp only []; omega)).trans kw0_4
  replace kw0_5 := (T16.cell (p := ⟨w3_.heap.size, 5, none⟩) (by simp only []; omega)).trans kw0_5
  replace yg0 : w5_.heap.size < w16_.heap.size := by omega
  replace kg0_0 := (T16.cell (p := ⟨w5_.heap.size, 0, none⟩) (by simp only []; omega)).trans kg0_0
  replace kg0_1 := (T16.cell (p := ⟨w5_.heap.size, 1, none⟩) (by simp only []; omega)).trans kg0_1
  replace kg0_2 := (T16.cell (p := ⟨w5_.heap.size, 2, none⟩) (by simp only []; omega)).trans kg0_2
  replace kg0_3 := (T16.cell (p := ⟨w5_.heap.size, 3, none⟩) (by simp only []; omega)).trans kg0_3
  replace kg0_4 := (T16.cell (p := ⟨w5_.heap.size, 4, none⟩) (by simp only []; omega)).trans kg0_4
  replace kg0_5 := (T16.cell (p := ⟨w5_.heap.size, 5, none⟩) (by simp only []; omega)).trans kg0_5
  replace O_w0 := O_w0.below T16
  replace O_w1 := O_w1.below T16
  replace O_g1 := O_g1.below T16
  replace O_g0 := O_g0.below T16
  have D16 := bnext D15 T16
  clear T16 hb16
  go_wp2_with fail
  refine (toHouse_any _ _ _ _ (hd0) _ (h0.below D16) hB0).mono ?_
  rintro e w17_ ⟨gc_17, gm_17, go_17, gt_17, rfl, hO17, hb17⟩
  have T17 := hb17
  have Z17 := hb17.size
  replace yp0 : w.heap.size < w17_.heap.size := by omega
  replace kp0_0 := (T17.cell (p := ⟨w.heap.size, 0, none⟩) (by simp only []; omega)).trans kp0_0
  replace kp0_1 := (T17.cell (p := ⟨w.heap.size, 1, none⟩) (by simp only []; omega)).trans kp0_1
  replace kp0_2 := (T17.cell (p := ⟨w.heap.size, 2, none⟩) (by simp only []; omega)).trans kp0_2
  replace kp0_3 := (T17.cell (p := ⟨w.heap.size, 3, none⟩) (by simp only []; omega)).trans kp0_3
  replace kp0_4 := (T17.cell (p := ⟨w.heap.size, 4, none⟩) (by simp only []; omega)).trans kp0_4
  replace kp0_5 := (T17.cell (p := ⟨w.heap.size, 5, none⟩) (by simp only []; omega)).trans kp0_5
  replace yw0 : w3_.heap.size < w17_.heap.size := by omega
  replace kw0_0 := (T17.cell (p := ⟨w3_.heap.size, 0, none⟩) (by simp only []; omega)).trans kw0_0
  replace kw0_1 := (T17.cell (p := ⟨w3_.heap.size, 1, none⟩) (by simp only []; omega)).trans kw0_1
  replace kw0_2 := (T17.cell (p := ⟨w3_.heap.size, 2, none⟩) (by simp only []; omega)).trans kw0_2
  replace kw0_3 := (T17.cell (p := ⟨w3_.heap.size, 3, none⟩) (by simp only []; omega)).trans kw0_3
  replace kw0_4 := (T17.cell (p := ⟨w3_.heap.size, 4, none⟩) (by simp only []; omega)).trans kw0_4
  replace kw0_5 := (T17.cell (p := ⟨w3_.heap.size, 5, none⟩) (by simp only []; omega)).trans kw0_5
  replace yg0 : w5_.heap.size < w17_.heap.size := by omega
  replace kg0_0 := (T17.cell (p := ⟨w5_.heap.size, 0, none⟩) (by simp only []; omega)).trans kg0_0
  replace kg0_1 := (T17.cell (p := ⟨w5_.heap.size, 1, none⟩) (by simp only []; omega)).trans kg0_1
  replace kg0_2 := (T17.cell (p := ⟨w5_.heap.size, 2, none⟩) (by simp only []; omega)).trans kg0_2
  replace kg0_3 := (T17.cell (p := ⟨w5_.heap.size, 3, none⟩) (by simp only []; omega)).trans kg0_3
  replace kg0_4 := (T17.cell (p := ⟨w5_.heap.size, 4, none⟩) (by simp only []; omega)).trans kg0_4
  replace kg0_5 := (T17.cell (p := ⟨w5_.heap.size, 5, none⟩) (by simp only []; omega)).trans kg0_5
  replace O_w0 := O_w0.below T17
  replace O_w1 := O_w1.below T17
  replace O_g1 := O_g1.below T17
  replace O_g0 := O_g0.below T17
  have D17 := bnext D16 T17
  have O_s0 := hO17
  clear hO17
  clear T17 hb17
  go_wp2_with fail
  refine (implWithdraw _ _ _ _ hd0 b s _ (O_s0.read hB0) O_s0.nils hB0).mono ?_
  rintro e w18_ ⟨ac_18, cc_18, am_18, cm_18, ao_18, co_18, at_18, ct_18, al_18, cl_18, rfl, hO18, ⟨p_18, q_18, pa_18, qa_18, hP18, oc_18, om_18, oo_18, ot_18⟩, hb18⟩
  have T18 := hb18
  have Z18 := hb18.size
  replace yp0 : w.heap.size < w18_.heap.size := by omega
  replace kp0_0 := (T18.cell (p := ⟨w.heap.size, 0, none⟩) (by simp only []; omega)).trans kp0_0
  replace kp0_1 := (T18.cell (p := ⟨w.heap.size, 1, none⟩) (by simp only []; omega)).trans kp0_1
  replace kp0_2 := (T18.cell (p := ⟨w.heap.size, 2, none⟩) (by simp only []; omega)).trans kp0_2
  replace kp0_3 := (T18.cell (p := ⟨w.heap.size, 3, none⟩) (by simp only []; omega)).trans kp0_3
  replace kp0_4 := (T18.cell (p := ⟨w.heap.size, 4, none⟩) (by simp only []; omega)).trans kp0_4
  replace kp0_5 := (T18.cell (p := ⟨w.heap.size, 5, none⟩) (by simp only []; omega)).trans kp0_5
  replace yw0 : w3_.heap.size < w18_.heap.size := by omega
  replace kw0_0 := (T18.cell (p := ⟨w3_.heap.size, 0, none⟩) (by simp only []; omega)).trans kw0_0
  replace kw0_1 := (T18.cell (p := ⟨w3_.heap.size, 1, none⟩) (by simp only []; omega)).trans kw0_1
  replace kw0_2 := (T18.cell (p := ⟨w3_.heap.size, 2, none⟩) (by simp only []; omega)).trans kw0_2
  replace kw0_3 := (T18.cell (p := ⟨w3_.heap.size, 3, none⟩) (by simp only []; omega)).trans kw0_3
  replace kw0_4 := (T18.cell (p := ⟨w3_.heap.size, 4, none⟩) (by simp only []; omega)).trans kw0_4
  replace kw0_5 := (T18.cell (p := ⟨w3_.heap.size, 5, none⟩) (by simp only []; omega)).trans kw0_5
  replace yg0 : w5_.heap.size < w18_.heap.size := by omega
  replace kg0_0 := (T18.cell (p := ⟨w5_.heap.size, 0, none⟩) (by simp only []; omega)).trans kg0_0
  replace kg0_1 := (T18.cell (p := ⟨w5_.heap.size, 1, none⟩) (by simp only []; omega)).trans kg0_1
  replace kg0_2 := (T18.cell (p := ⟨w5_.heap.size, 2, none⟩) (by simp only []; omega)).trans kg0_2
  replace kg0_3 := (T18.cell (p := ⟨w5_.heap.size, 3, none⟩) (by simp only []; omega)).trans kg0_3
  replace kg0_4 := (T18.cell (p := ⟨w5_.heap.size, 4, none⟩) (by simp only []; omega)).trans kg0_4
  replace kg0_5 := (T18.cell (p := ⟨w5_.heap.size, 5, none⟩) (by simp only []; omega)).trans kg0_5
  replace O_w0 := O_w0.below T18
  replace O_w1 := O_w1.below T18
  replace O_g1 := O_g1.below T18
  replace O_g0 := O_g0.below T18
  replace O_s0 := O_s0.below T18
  have D18 := bnext D17 T18
  have O_h0 := hO18
  clear hO18
  have pw_18 : w17_.heap.size + 0 ≤ p_18 := by have h := pa_18; first | omega | (simp at h; omega)
  have O_h1 := hP18
  clear hP18
  clear T18 hb18
  go_wp2_with fail
  clear O_s0
  refine (eqHouse_same _ _ _ _ _ _ _ _ ((withdraw hd0 b s).1) _ ((O_h0.read hN).below (balloc (bref _) _)) ((O_w0.read hN).below (balloc (bref _) _))).mono ?_
  rintro e w19_ ⟨rfl, hb19⟩
  have T19 := bnext (balloc (bref _) _) hb19
  have Z19 : w18_.heap.size + 1 ≤ w19_.heap.size := by have h := hb19.size; simp at h; omega
  replace yp0 : w.heap.size < w19_.heap.size := by omega
  replace kp0_0 := (T19.cell (p := ⟨w.heap.size, 0, none⟩) (by simp only []; omega)).trans kp0_0
  replace kp0_1 := (T19.cell (p := ⟨w.heap.size, 1, none⟩) (by simp only []; omega)).trans kp0_1
  replace kp0_2 := (T19.cell (p := ⟨w.heap.size, 2, none⟩) (by simp only []; omega)).trans kp0_2
  replace kp0_3 := (T19.cell (p := ⟨w.heap.size, 3, none⟩) (by simp only []; omega)).trans kp0_3
  replace kp0_4 := (T19.cell (p := ⟨w.heap.size, 4, none⟩) (by simp only []; omega)).trans kp0_4
  replace kp0_5 := (T19.cell (p := ⟨w.heap.size, 5, none⟩) (by simp only []; omega)).trans kp0_5
  replace yw0 : w3_.heap.size < w19_.heap.size := by omega
  replace kw0_0 := (T19.cell (p := ⟨w3_.heap.size, 0, none⟩) (by simp only []; omega)).trans kw0_0
  replace kw0_1 := (T19.cell (p := ⟨w3_.heap.size, 1, none⟩) (by simp only []; omega)).trans kw0_1
  replace kw0_2 := (T19.cell (p := ⟨w3_.heap.size, 2, none⟩) (by simp only []; omega)).trans kw0_2
  replace kw0_3 := (T19.cell (p := ⟨w3_.heap.size, 3, none⟩) (by simp only []; omega)).trans kw0_3
  replace kw0_4 := (T19.cell (p := ⟨w3_.heap.size, 4, none⟩) (by simp only []; omega)).trans kw0_4
  replace kw0_5 := (T19.cell (p := ⟨w3_.heap.size, 5, none⟩) (by simp only []; omega)).trans kw0_5
  replace yg0 : w5_.heap.size < w19_.heap.size := by omega
  replace kg0_0 := (T19.cell (p := ⟨w5_.heap.size, 0, none⟩) (by simp only []; omega)).trans kg0_0
  replace kg0_1 := (T19.cell (p := ⟨w5_.heap.size, 1, none⟩) (by simp only []; omega)).trans kg0_1
  replace kg0_2 := (T19.cell (p := ⟨w5_.heap.size, 2, none⟩) (by simp only []; omega)).trans kg0_2
  replace kg0_3 := (T19.cell (p := ⟨w5_.heap.size, 3, none⟩) (by simp only []; omega)).trans kg0_3
  replace kg0_4 := (T19.cell (p := ⟨w5_.heap.size, 4, none⟩) (by simp only []; omega)).trans kg0_4
  replace kg0_5 := (T19.cell (p := ⟨w5_.heap.size, 5, none⟩) (by simp only []; omega)).trans kg0_5
  have yh0 : w18_.heap.size < w19_.heap.size := by omega
  have kh0_0 : w19_.cell? ⟨w18_.heap.size, 0, none⟩ = some ((.slice ac_18 ((withdraw hd0 b s).1).n cc_18)) := (hb19.cell (p := ⟨w18_.heap.size, 0, none⟩) (by simp)).trans (by simp)
  have kh0_1 : w19_.cell? ⟨w18_.heap.size, 1, none⟩ = some ((.slice am_18 ((withdraw hd0 b s).1).ms.length cm_18)) := (hb19.cell (p := ⟨w18_.heap.size, 1, none⟩) (by simp)).trans (by simp)
  have kh0_2 : w19_.cell? ⟨w18_.heap.size, 2, none⟩ = some ((.slice ao_18 ((withdraw hd0 b s).1).os.length co_18)) := (hb19.cell (p := ⟨w18_.heap.size, 2, none⟩) (by simp)).trans (by simp)
  have kh0_3 : w19_.cell? ⟨w18_.heap.size, 3, none⟩ = some ((.slice at_18 ((withdraw hd0 b s).1).ts.length ct_18)) := (hb19.cell (p := ⟨w18_.heap.size, 3, none⟩) (by simp)).trans (by simp)
  have kh0_4 : w19_.cell? ⟨w18_.heap.size, 4, none⟩ = some (.int .i64 ((withdraw hd0 b s).1).sent) := (hb19.cell (p := ⟨w18_.heap.size, 4, none⟩) (by simp)).trans (by simp)
  have kh0_5 : w19_.cell? ⟨w18_.heap.size, 5, none⟩ = some (.int .i64 ((withdraw hd0 b s).1).day) := (hb19.cell (p := ⟨w18_.heap.size, 5, none⟩) (by simp)).trans (by simp)
  replace O_w0 := O_w0.below T19
  replace O_w1 := O_w1.below T19
  replace O_g1 := O_g1.below T19
  replace O_g0 := O_g0.below T19
  replace O_h0 := O_h0.below T19
  replace O_h1 := O_h1.below T19
  have D19 := bnext D18 T19
  clear T19 hb19
  go_wp2_with fail
  refine (eqLetterS_any _ _ ((withdraw hd0 b s).2.1) ((withdraw hd0 b s).2.1) _ (O_h1.read hM) (O_w1.read hM)).mono ?_
  rintro e w20_ ⟨rfl, hb20⟩
  have T20 := hb20
  have Z20 := hb20.size
  replace yp0 : w.heap.size < w20_.heap.size := by omega
  replace kp0_0 := (T20.cell (p := ⟨w.heap.size, 0, none⟩) (by simp only []; omega)).trans kp0_0
  replace kp0_1 := (T20.cell (p := ⟨w.heap.size, 1, none⟩) (by simp only []; omega)).trans kp0_1
  replace kp0_2 := (T20.cell (p := ⟨w.heap.size, 2, none⟩) (by simp only []; omega)).trans kp0_2
  replace kp0_3 := (T20.cell (p := ⟨w.heap.size, 3, none⟩) (by simp only []; omega)).trans kp0_3
  replace kp0_4 := (T20.cell (p := ⟨w.heap.size, 4, none⟩) (by simp only []; omega)).trans kp0_4
  replace kp0_5 := (T20.cell (p := ⟨w.heap.size, 5, none⟩) (by simp only []; omega)).trans kp0_5
  replace yw0 : w3_.heap.size < w20_.heap.size := by omega
  replace kw0_0 := (T20.cell (p := ⟨w3_.heap.size, 0, none⟩) (by simp only []; omega)).trans kw0_0
  replace kw0_1 := (T20.cell (p := ⟨w3_.heap.size, 1, none⟩) (by simp only []; omega)).trans kw0_1
  replace kw0_2 := (T20.cell (p := ⟨w3_.heap.size, 2, none⟩) (by simp only []; omega)).trans kw0_2
  replace kw0_3 := (T20.cell (p := ⟨w3_.heap.size, 3, none⟩) (by simp only []; omega)).trans kw0_3
  replace kw0_4 := (T20.cell (p := ⟨w3_.heap.size, 4, none⟩) (by simp only []; omega)).trans kw0_4
  replace kw0_5 := (T20.cell (p := ⟨w3_.heap.size, 5, none⟩) (by simp only []; omega)).trans kw0_5
  replace yg0 : w5_.heap.size < w20_.heap.size := by omega
  replace kg0_0 := (T20.cell (p := ⟨w5_.heap.size, 0, none⟩) (by simp only []; omega)).trans kg0_0
  replace kg0_1 := (T20.cell (p := ⟨w5_.heap.size, 1, none⟩) (by simp only []; omega)).trans kg0_1
  replace kg0_2 := (T20.cell (p := ⟨w5_.heap.size, 2, none⟩) (by simp only []; omega)).trans kg0_2
  replace kg0_3 := (T20.cell (p := ⟨w5_.heap.size, 3, none⟩) (by simp only []; omega)).trans kg0_3
  replace kg0_4 := (T20.cell (p := ⟨w5_.heap.size, 4, none⟩) (by simp only []; omega)).trans kg0_4
  replace kg0_5 := (T20.cell (p := ⟨w5_.heap.size, 5, none⟩) (by simp only []; omega)).trans kg0_5
  replace yh0 : w18_.heap.size < w20_.heap.size := by omega
  replace kh0_0 := (T20.cell (p := ⟨w18_.heap.size, 0, none⟩) (by simp only []; omega)).trans kh0_0
  replace kh0_1 := (T20.cell (p := ⟨w18_.heap.size, 1, none⟩) (by simp only []; omega)).trans kh0_1
  replace kh0_2 := (T20.cell (p := ⟨w18_.heap.size, 2, none⟩) (by simp only []; omega)).trans kh0_2
  replace kh0_3 := (T20.cell (p := ⟨w18_.heap.size, 3, none⟩) (by simp only []; omega)).trans kh0_3
  replace kh0_4 := (T20.cell (p := ⟨w18_.heap.size, 4, none⟩) (by simp only []; omega)).trans kh0_4
  replace kh0_5 := (T20.cell (p := ⟨w18_.heap.size, 5, none⟩) (by simp only []; omega)).trans kh0_5
  replace O_w0 := O_w0.below T20
  replace O_w1 := O_w1.below T20
  replace O_g1 := O_g1.below T20
  replace O_g0 := O_g0.below T20
  replace O_h0 := O_h0.below T20
  replace O_h1 := O_h1.below T20
  have D20 := bnext D19 T20
  clear T20 hb20
  go_wp2_with fail
  refine (heldHouse_any _ _ _ _ ((withdraw hd0 b s).1) (1) _ _ _ O_g0 hN (by omega) (by omega)).mono ?_
  rintro e w21_ ⟨rfl, hb21⟩
  have T21 := hb21
  have Z21 := hb21.size
  replace yp0 : w.heap.size < w21_.heap.size := by omega
  replace kp0_0 := (T21.cell (p := ⟨w.heap.size, 0, none⟩) (by simp only []; omega)).trans kp0_0
  replace kp0_1 := (T21.cell (p := ⟨w.heap.size, 1, none⟩) (by simp only []; omega)).trans kp0_1
  replace kp0_2 := (T21.cell (p := ⟨w.heap.size, 2, none⟩) (by simp only []; omega)).trans kp0_2
  replace kp0_3 := (T21.cell (p := ⟨w.heap.size, 3, none⟩) (by simp only []; omega)).trans kp0_3
  replace kp0_4 := (T21.cell (p := ⟨w.heap.size, 4, none⟩) (by simp only []; omega)).trans kp0_4
  replace kp0_5 := (T21.cell (p := ⟨w.heap.size, 5, none⟩) (by simp only []; omega)).trans kp0_5
  replace yw0 : w3_.heap.size < w21_.heap.size := by omega
  replace kw0_0 := (T21.cell (p := ⟨w3_.heap.size, 0, none⟩) (by simp only []; omega)).trans kw0_0
  replace kw0_1 := (T21.cell (p := ⟨w3_.heap.size, 1, none⟩) (by simp only []; omega)).trans kw0_1
  replace kw0_2 := (T21.cell (p := ⟨w3_.heap.size, 2, none⟩) (by simp only []; omega)).trans kw0_2
  replace kw0_3 := (T21.cell (p := ⟨w3_.heap.size, 3, none⟩) (by simp only []; omega)).trans kw0_3
  replace kw0_4 := (T21.cell (p := ⟨w3_.heap.size, 4, none⟩) (by simp only []; omega)).trans kw0_4
  replace kw0_5 := (T21.cell (p := ⟨w3_.heap.size, 5, none⟩) (by simp only []; omega)).trans kw0_5
  replace yg0 : w5_.heap.size < w21_.heap.size := by omega
  replace kg0_0 := (T21.cell (p := ⟨w5_.heap.size, 0, none⟩) (by simp only []; omega)).trans kg0_0
  replace kg0_1 := (T21.cell (p := ⟨w5_.heap.size, 1, none⟩) (by simp only []; omega)).trans kg0_1
  replace kg0_2 := (T21.cell (p := ⟨w5_.heap.size, 2, none⟩) (by simp only []; omega)).trans kg0_2
  replace kg0_3 := (T21.cell (p := ⟨w5_.heap.size, 3, none⟩) (by simp only []; omega)).trans kg0_3
  replace kg0_4 := (T21.cell (p := ⟨w5_.heap.size, 4, none⟩) (by simp only []; omega)).trans kg0_4
  replace kg0_5 := (T21.cell (p := ⟨w5_.heap.size, 5, none⟩) (by simp only []; omega)).trans kg0_5
  replace yh0 : w18_.heap.size < w21_.heap.size := by omega
  replace kh0_0 := (T21.cell (p := ⟨w18_.heap.size, 0, none⟩) (by simp only []; omega)).trans kh0_0
  replace kh0_1 := (T21.cell (p := ⟨w18_.heap.size, 1, none⟩) (by simp only []; omega)).trans kh0_1
  replace kh0_2 := (T21.cell (p := ⟨w18_.heap.size, 2, none⟩) (by simp only []; omega)).trans kh0_2
  replace kh0_3 := (T21.cell (p := ⟨w18_.heap.size, 3, none⟩) (by simp only []; omega)).trans kh0_3
  replace kh0_4 := (T21.cell (p := ⟨w18_.heap.size, 4, none⟩) (by simp only []; omega)).trans kh0_4
  replace kh0_5 := (T21.cell (p := ⟨w18_.heap.size, 5, none⟩) (by simp only []; omega)).trans kh0_5
  replace O_w0 := O_w0.below T21
  replace O_w1 := O_w1.below T21
  replace O_g1 := O_g1.below T21
  replace O_g0 := O_g0.below T21
  replace O_h0 := O_h0.below T21
  replace O_h1 := O_h1.below T21
  have D21 := bnext D20 T21
  clear T21 hb21
  go_wp2_with fail
  refine (heldLetterS_o _ ((withdraw hd0 b s).2.1) (1 + (((withdraw hd0 b s).1).bulk : Int)) _ _ _ O_g1 hM (by omega) (by omega)).mono ?_
  rintro e w22_ ⟨rfl, hb22⟩
  have T22 := hb22
  have Z22 := hb22.size
  replace yp0 : w.heap.size < w22_.heap.size := by omega
  replace kp0_0 := (T22.cell (p := ⟨w.heap.size, 0, none⟩) (by simp only []; omega)).trans kp0_0
  replace kp0_1 := (T22.cell (p := ⟨w.heap.size, 1, none⟩) (by simp only []; omega)).trans kp0_1
  replace kp0_2 := (T22.cell (p := ⟨w.heap.size, 2, none⟩) (by simp only []; omega)).trans kp0_2
  replace kp0_3 := (T22.cell (p := ⟨w.heap.size, 3, none⟩) (by simp only []; omega)).trans kp0_3
  replace kp0_4 := (T22.cell (p := ⟨w.heap.size, 4, none⟩) (by simp only []; omega)).trans kp0_4
  replace kp0_5 := (T22.cell (p := ⟨w.heap.size, 5, none⟩) (by simp only []; omega)).trans kp0_5
  replace yw0 : w3_.heap.size < w22_.heap.size := by omega
  replace kw0_0 := (T22.cell (p := ⟨w3_.heap.size, 0, none⟩) (by simp only []; omega)).trans kw0_0
  replace kw0_1 := (T22.cell (p := ⟨w3_.heap.size, 1, none⟩) (by simp only []; omega)).trans kw0_1
  replace kw0_2 := (T22.cell (p := ⟨w3_.heap.size, 2, none⟩) (by simp only []; omega)).trans kw0_2
  replace kw0_3 := (T22.cell (p := ⟨w3_.heap.size, 3, none⟩) (by simp only []; omega)).trans kw0_3
  replace kw0_4 := (T22.cell (p := ⟨w3_.heap.size, 4, none⟩) (by simp only []; omega)).trans kw0_4
  replace kw0_5 := (T22.cell (p := ⟨w3_.heap.size, 5, none⟩) (by simp only []; omega)).trans kw0_5
  replace yg0 : w5_.heap.size < w22_.heap.size := by omega
  replace kg0_0 := (T22.cell (p := ⟨w5_.heap.size, 0, none⟩) (by simp only []; omega)).trans kg0_0
  replace kg0_1 := (T22.cell (p := ⟨w5_.heap.size, 1, none⟩) (by simp only []; omega)).trans kg0_1
  replace kg0_2 := (T22.cell (p := ⟨w5_.heap.size, 2, none⟩) (by simp only []; omega)).trans kg0_2
  replace kg0_3 := (T22.cell (p := ⟨w5_.heap.size, 3, none⟩) (by simp only []; omega)).trans kg0_3
  replace kg0_4 := (T22.cell (p := ⟨w5_.heap.size, 4, none⟩) (by simp only []; omega)).trans kg0_4
  replace kg0_5 := (T22.cell (p := ⟨w5_.heap.size, 5, none⟩) (by simp only []; omega)).trans kg0_5
  replace yh0 : w18_.heap.size < w22_.heap.size := by omega
  replace kh0_0 := (T22.cell (p := ⟨w18_.heap.size, 0, none⟩) (by simp only []; omega)).trans kh0_0
  replace kh0_1 := (T22.cell (p := ⟨w18_.heap.size, 1, none⟩) (by simp only []; omega)).trans kh0_1
  replace kh0_2 := (T22.cell (p := ⟨w18_.heap.size, 2, none⟩) (by simp only []; omega)).trans kh0_2
  replace kh0_3 := (T22.cell (p := ⟨w18_.heap.size, 3, none⟩) (by simp only []; omega)).trans kh0_3
  replace kh0_4 := (T22.cell (p := ⟨w18_.heap.size, 4, none⟩) (by simp only []; omega)).trans kh0_4
  replace kh0_5 := (T22.cell (p := ⟨w18_.heap.size, 5, none⟩) (by simp only []; omega)).trans kh0_5
  replace O_w0 := O_w0.below T22
  replace O_w1 := O_w1.below T22
  replace O_g1 := O_g1.below T22
  replace O_g0 := O_g0.below T22
  replace O_h0 := O_h0.below T22
  replace O_h1 := O_h1.below T22
  have D22 := bnext D21 T22
  clear T22 hb22
  go_wp2
  go_ret
  exact ⟨rfl, D22⟩
end Go.Proofs.Ytdchgbhhlocmdaa
