/- The law that compares FormatHouse with the reference, walked. -/
import Derived.Test.YtdeongecbmjkjaaDoorFormatHouse
import Derived.Test.YtdeongecbmjkjaaDoorHouseS
import Derived.Test.YtdeongecbmjkjaaDoorTextO
import Derived.Deep.RegionHeld3
namespace Go.Proofs.YtdeongecbmjkjaaDoor
open Go.ChangeShapes Go.WideShapes Go.ChangeAt Go.RowKit
set_option maxRecDepth 100000 in
set_option maxHeartbeats 4000000 in
theorem fnExactFormatHouse_any (vc0 vm0 vo0 vt0 : Value) (hd0 : HD) (w : World) (h0 : HouseR w vc0 vm0 vo0 vt0 hd0) (ht : Tab w) :
    Calls Tryd.prog 6 #[.agg #[vc0, vm0, vo0, vt0, .int .i64 (hd0).sent, .int .i64 (hd0).day]] w fun e w' => e = .returned (.bool true) ∧ Below w.heap.size w w' := by
  obtain ⟨adc0, capc0, rfl⟩ : ∃ ad cap, vc0 = .slice ad hd0.n cap := by obtain ⟨_, _, ad, cap, hh, _⟩ := h0.c; exact ⟨ad, cap, hh⟩
  obtain ⟨adm0, capm0, rfl⟩ : ∃ ad cap, vm0 = .slice ad hd0.ms.length cap := by obtain ⟨_, ad, cap, hh, _⟩ := h0.m; exact ⟨ad, cap, hh⟩
  obtain ⟨ado0, capo0, rfl⟩ : ∃ ad cap, vo0 = .slice ad hd0.os.length cap := by obtain ⟨_, ad, cap, hh, _⟩ := h0.o; exact ⟨ad, cap, hh⟩
  obtain ⟨adt0, capt0, rfl⟩ : ∃ ad cap, vt0 = .slice ad hd0.ts.length cap := by obtain ⟨_, ad, cap, hh, _⟩ := h0.t; exact ⟨ad, cap, hh⟩
  by_cases q0 : (1048576 : Int) < ((hd0).size : Int)
  · skip
    go_enter Tryd.func6, Tryd.ntmps6
    go_wp2_with fail
    refine (szHouse_any _ _ _ _ (hd0) (1048576) _ (h0.below (balloc (bref _) _)) (by omega) (by omega)).mono ?_
    rintro e w1_ ⟨rfl, hb1⟩
    have T1 := bnext (balloc (bref _) _) hb1
    have Z1 : w.heap.size + 1 ≤ w1_.heap.size := by have h := hb1.size; simp at h; omega
    have yp0 : w.heap.size < w1_.heap.size := by omega
    have kp0_0 : w1_.cell? ⟨w.heap.size, 0, none⟩ = some ((.slice adc0 hd0.n capc0)) := (hb1.cell (p := ⟨w.heap.size, 0, none⟩) (by simp)).trans (by simp)
    have kp0_1 : w1_.cell? ⟨w.heap.size, 1, none⟩ = some ((.slice adm0 hd0.ms.length capm0)) := (hb1.cell (p := ⟨w.heap.size, 1, none⟩) (by simp)).trans (by simp)
    have kp0_2 : w1_.cell? ⟨w.heap.size, 2, none⟩ = some ((.slice ado0 hd0.os.length capo0)) := (hb1.cell (p := ⟨w.heap.size, 2, none⟩) (by simp)).trans (by simp)
    have kp0_3 : w1_.cell? ⟨w.heap.size, 3, none⟩ = some ((.slice adt0 hd0.ts.length capt0)) := (hb1.cell (p := ⟨w.heap.size, 3, none⟩) (by simp)).trans (by simp)
    have kp0_4 : w1_.cell? ⟨w.heap.size, 4, none⟩ = some (.int .i64 (hd0).sent) := (hb1.cell (p := ⟨w.heap.size, 4, none⟩) (by simp)).trans (by simp)
    have kp0_5 : w1_.cell? ⟨w.heap.size, 5, none⟩ = some (.int .i64 (hd0).day) := (hb1.cell (p := ⟨w.heap.size, 5, none⟩) (by simp)).trans (by simp)
    have D1 := bnext (bref w) T1
    clear T1 hb1
    rw [szRes_lt (by omega)]
    go_wp2
    go_ret
    exact ⟨rfl, D1⟩
  have hB0 : HouseB hd0 1048576 := ⟨by unfold HD.size at q0; omega, by unfold HD.size at q0; omega, by unfold HD.size at q0; omega, by unfold HD.size at q0; omega⟩
  have hN := formatHouse_len hd0
  have hK0 := bulk_le hB0
  go_enter Tryd.func6, Tryd.ntmps6
  go_wp2_with fail
  refine (szHouse_any _ _ _ _ (hd0) (1048576) _ (h0.below (balloc (bref _) _)) (by omega) (by omega)).mono ?_
  rintro e w1_ ⟨rfl, hb1⟩
  have T1 := bnext (balloc (bref _) _) hb1
  have Z1 : w.heap.size + 1 ≤ w1_.heap.size := by have h := hb1.size; simp at h; omega
  have yp0 : w.heap.size < w1_.heap.size := by omega
  have kp0_0 : w1_.cell? ⟨w.heap.size, 0, none⟩ = some ((.slice adc0 hd0.n capc0)) := (hb1.cell (p := ⟨w.heap.size, 0, none⟩) (by simp)).trans (by simp)
  have kp0_1 : w1_.cell? ⟨w.heap.size, 1, none⟩ = some ((.slice adm0 hd0.ms.length capm0)) := (hb1.cell (p := ⟨w.heap.size, 1, none⟩) (by simp)).trans (by simp)
  have kp0_2 : w1_.cell? ⟨w.heap.size, 2, none⟩ = some ((.slice ado0 hd0.os.length capo0)) := (hb1.cell (p := ⟨w.heap.size, 2, none⟩) (by simp)).trans (by simp)
  have kp0_3 : w1_.cell? ⟨w.heap.size, 3, none⟩ = some ((.slice adt0 hd0.ts.length capt0)) := (hb1.cell (p := ⟨w.heap.size, 3, none⟩) (by simp)).trans (by simp)
  have kp0_4 : w1_.cell? ⟨w.heap.size, 4, none⟩ = some (.int .i64 (hd0).sent) := (hb1.cell (p := ⟨w.heap.size, 4, none⟩) (by simp)).trans (by simp)
  have kp0_5 : w1_.cell? ⟨w.heap.size, 5, none⟩ = some (.int .i64 (hd0).day) := (hb1.cell (p := ⟨w.heap.size, 5, none⟩) (by simp)).trans (by simp)
  have D1 := bnext (bref w) T1
  clear T1 hb1
  rw [szRes_ge (by omega)]
  go_wp2_with fail
  refine (toHouse_any _ _ _ _ (hd0) _ (h0.below D1) hB0).mono ?_
  rintro e w2_ ⟨gc_2, gm_2, go_2, gt_2, rfl, hO2, hb2⟩
  have T2 := hb2
  have Z2 := hb2.size
  replace yp0 : w.heap.size < w2_.heap.size := by omega
  replace kp0_0 := (T2.cell (p := ⟨w.heap.size, 0, none⟩) (by simp only []; omega)).trans kp0_0
  replace kp0_1 := (T2.cell (p := ⟨w.heap.size, 1, none⟩) (by simp only []; omega)).trans kp0_1
  replace kp0_2 := (T2.cell (p := ⟨w.heap.size, 2, none⟩) (by simp only []; omega)).trans kp0_2
  replace kp0_3 := (T2.cell (p := ⟨w.heap.size, 3, none⟩) (by simp only []; omega)).trans kp0_3
  replace kp0_4 := (T2.cell (p := ⟨w.heap.size, 4, none⟩) (by simp only []; omega)).trans kp0_4
  replace kp0_5 := (T2.cell (p := ⟨w.heap.size, 5, none⟩) (by simp only []; omega)).trans kp0_5
  have D2 := bnext D1 T2
  have O_s0 := hO2
  clear hO2
  clear T2 hb2
  go_wp2_with fail
  refine (specFormatHouse _ _ _ _ hd0 _ (O_s0.read hB0)).mono ?_
  rintro e w3_ ⟨v0_3, rfl, hO3, hb3⟩
  have T3 := hb3
  have Z3 := hb3.size
  replace yp0 : w.heap.size < w3_.heap.size := by omega
  replace kp0_0 := (T3.cell (p := ⟨w.heap.size, 0, none⟩) (by simp only []; omega)).trans kp0_0
  replace kp0_1 := (T3.cell (p := ⟨w.heap.size, 1, none⟩) (by simp only []; omega)).trans kp0_1
  replace kp0_2 := (T3.cell (p := ⟨w.heap.size, 2, none⟩) (by simp only []; omega)).trans kp0_2
  replace kp0_3 := (T3.cell (p := ⟨w.heap.size, 3, none⟩) (by simp only []; omega)).trans kp0_3
  replace kp0_4 := (T3.cell (p := ⟨w.heap.size, 4, none⟩) (by simp only []; omega)).trans kp0_4
  replace kp0_5 := (T3.cell (p := ⟨w.heap.size, 5, none⟩) (by simp only []; omega)).trans kp0_5
  replace O_s0 := O_s0.below T3
  have D3 := bnext D2 T3
  have O_w0 := TextO.of hO3
  clear hO3
  clear T3 hb3
  go_wp2_with fail
  clear O_s0
  refine (toHouse_any _ _ _ _ (hd0) _ (h0.below D3) hB0).mono ?_
  rintro e w4_ ⟨gc_4, gm_4, go_4, gt_4, rfl, hO4, hb4⟩
  have T4 := hb4
  have Z4 := hb4.size
  replace yp0 : w.heap.size < w4_.heap.size := by omega
  replace kp0_0 := (T4.cell (p := ⟨w.heap.size, 0, none⟩) (by simp only []; omega)).trans kp0_0
  replace kp0_1 := (T4.cell (p := ⟨w.heap.size, 1, none⟩) (by simp only []; omega)).trans kp0_1
  replace kp0_2 := (T4.cell (p := ⟨w.heap.size, 2, none⟩) (by simp only []; omega)).trans kp0_2
  replace kp0_3 := (T4.cell (p := ⟨w.heap.size, 3, none⟩) (by simp only []; omega)).trans kp0_3
  replace kp0_4 := (T4.cell (p := ⟨w.heap.size, 4, none⟩) (by simp only []; omega)).trans kp0_4
  replace kp0_5 := (T4.cell (p := ⟨w.heap.size, 5, none⟩) (by simp only []; omega)).trans kp0_5
  replace O_w0 := O_w0.below T4
  have D4 := bnext D3 T4
  have O_x0 := hO4
  clear hO4
  clear T4 hb4
  go_wp2_with fail
  refine (implFormatHouse _ _ _ _ hd0 _ ((O_x0.read hB0).below (balloc (bref _) _)) ((ht.below D4).below (balloc (bref _) _))).mono ?_
  rintro e w5_ ⟨v0_5, rfl, hO5, hb5⟩
  have T5 := bnext (balloc (bref _) _) hb5
  have Z5 : w4_.heap.size + 1 ≤ w5_.heap.size := by have h := hb5.size; simp at h; omega
  replace yp0 : w.heap.size < w5_.heap.size := by omega
  replace kp0_0 := (T5.cell (p := ⟨w.heap.size, 0, none⟩) (by simp only []; omega)).trans kp0_0
  replace kp0_1 := (T5.cell (p := ⟨w.heap.size, 1, none⟩) (by simp only []; omega)).trans kp0_1
  replace kp0_2 := (T5.cell (p := ⟨w.heap.size, 2, none⟩) (by simp only []; omega)).trans kp0_2
  replace kp0_3 := (T5.cell (p := ⟨w.heap.size, 3, none⟩) (by simp only []; omega)).trans kp0_3
  replace kp0_4 := (T5.cell (p := ⟨w.heap.size, 4, none⟩) (by simp only []; omega)).trans kp0_4
  replace kp0_5 := (T5.cell (p := ⟨w.heap.size, 5, none⟩) (by simp only []; omega)).trans kp0_5
  have yx0 : w4_.heap.size < w5_.heap.size := by omega
  have kx0_0 : w5_.cell? ⟨w4_.heap.size, 0, none⟩ = some ((.slice (some ⟨gc_4, 0, none⟩) hd0.n hd0.n)) := (hb5.cell (p := ⟨w4_.heap.size, 0, none⟩) (by simp)).trans (by simp)
  have kx0_1 : w5_.cell? ⟨w4_.heap.size, 1, none⟩ = some ((.slice (some ⟨gm_4, 0, none⟩) hd0.ms.length hd0.ms.length)) := (hb5.cell (p := ⟨w4_.heap.size, 1, none⟩) (by simp)).trans (by simp)
  have kx0_2 : w5_.cell? ⟨w4_.heap.size, 2, none⟩ = some ((.slice (some ⟨go_4, 0, none⟩) hd0.os.length hd0.os.length)) := (hb5.cell (p := ⟨w4_.heap.size, 2, none⟩) (by simp)).trans (by simp)
  have kx0_3 : w5_.cell? ⟨w4_.heap.size, 3, none⟩ = some ((.slice (some ⟨gt_4, 0, none⟩) hd0.ts.length hd0.ts.length)) := (hb5.cell (p := ⟨w4_.heap.size, 3, none⟩) (by simp)).trans (by simp)
  have kx0_4 : w5_.cell? ⟨w4_.heap.size, 4, none⟩ = some (.int .i64 (hd0).sent) := (hb5.cell (p := ⟨w4_.heap.size, 4, none⟩) (by simp)).trans (by simp)
  have kx0_5 : w5_.cell? ⟨w4_.heap.size, 5, none⟩ = some (.int .i64 (hd0).day) := (hb5.cell (p := ⟨w4_.heap.size, 5, none⟩) (by simp)).trans (by simp)
  replace O_w0 := O_w0.below T5
  replace O_x0 := O_x0.below T5
  have D5 := bnext D4 T5
  have O_g0 := (TextO.of hO5).wide (lo' := w4_.heap.size + 1) (by first | (simp; done) | (simp; omega)) (Nat.le_refl _)
  clear hO5
  clear T5 hb5
  go_wp2_with fail
  refine (eqStringS_same _ _ (formatHouse hd0) _ (O_g0.read (by omega)) (O_w0.read (by omega))).mono ?_
  rintro e w6_ ⟨rfl, hb6⟩
  have T6 := hb6
  have Z6 := hb6.size
  replace yp0 : w.heap.size < w6_.heap.size := by omega
  replace kp0_0 := (T6.cell (p := ⟨w.heap.size, 0, none⟩) (by simp only []; omega)).trans kp0_0
  replace kp0_1 := (T6.cell (p := ⟨w.heap.size, 1, none⟩) (by simp only []; omega)).trans kp0_1
  replace kp0_2 := (T6.cell (p := ⟨w.heap.size, 2, none⟩) (by simp only []; omega)).trans kp0_2
  replace kp0_3 := (T6.cell (p := ⟨w.heap.size, 3, none⟩) (by simp only []; omega)).trans kp0_3
  replace kp0_4 := (T6.cell (p := ⟨w.heap.size, 4, none⟩) (by simp only []; omega)).trans kp0_4
  replace kp0_5 := (T6.cell (p := ⟨w.heap.size, 5, none⟩) (by simp only []; omega)).trans kp0_5
  replace yx0 : w4_.heap.size < w6_.heap.size := by omega
  replace kx0_0 := (T6.cell (p := ⟨w4_.heap.size, 0, none⟩) (by simp only []; omega)).trans kx0_0
  replace kx0_1 := (T6.cell (p := ⟨w4_.heap.size, 1, none⟩) (by simp only []; omega)).trans kx0_1
  replace kx0_2 := (T6.cell (p := ⟨w4_.heap.size, 2, none⟩) (by simp only []; omega)).trans kx0_2
  replace kx0_3 := (T6.cell (p := ⟨w4_.heap.size, 3, none⟩) (by simp only []; omega)).trans kx0_3
  replace kx0_4 := (T6.cell (p := ⟨w4_.heap.size, 4, none⟩) (by simp only []; omega)).trans kx0_4
  replace kx0_5 := (T6.cell (p := ⟨w4_.heap.size, 5, none⟩) (by simp only []; omega)).trans kx0_5
  replace O_w0 := O_w0.below T6
  replace O_x0 := O_x0.below T6
  replace O_g0 := O_g0.below T6
  have D6 := bnext D5 T6
  clear T6 hb6
  go_wp2_with fail
  have RP_ := (h0.below D6)
  have RX_ := (O_x0.read hB0)
  have MK : Hid (∀ w', Below w6_.heap.size w6_ w' → w'.cell? ⟨w4_.heap.size, 0, none⟩ = some ((.slice (some ⟨gc_4, 0, none⟩) hd0.n hd0.n)) ∧ w'.cell? ⟨w4_.heap.size, 1, none⟩ = some ((.slice (some ⟨gm_4, 0, none⟩) hd0.ms.length hd0.ms.length)) ∧ w'.cell? ⟨w4_.heap.size, 2, none⟩ = some ((.slice (some ⟨go_4, 0, none⟩) hd0.os.length hd0.os.length)) ∧ w'.cell? ⟨w4_.heap.size, 3, none⟩ = some ((.slice (some ⟨gt_4, 0, none⟩) hd0.ts.length hd0.ts.length)) ∧ w'.cell? ⟨w4_.heap.size, 4, none⟩ = some (.int .i64 (hd0).sent) ∧ w'.cell? ⟨w4_.heap.size, 5, none⟩ = some (.int .i64 (hd0).day) ∧ w'.cell? ⟨w.heap.size, 0, none⟩ = some ((.slice adc0 hd0.n capc0)) ∧ w'.cell? ⟨w.heap.size, 1, none⟩ = some ((.slice adm0 hd0.ms.length capm0)) ∧ w'.cell? ⟨w.heap.size, 2, none⟩ = some ((.slice ado0 hd0.os.length capo0)) ∧ w'.cell? ⟨w.heap.size, 3, none⟩ = some ((.slice adt0 hd0.ts.length capt0)) ∧ w'.cell? ⟨w.heap.size, 4, none⟩ = some (.int .i64 (hd0).sent) ∧ w'.cell? ⟨w.heap.size, 5, none⟩ = some (.int .i64 (hd0).day) ∧ HouseR w' (.slice adc0 hd0.n capc0) (.slice adm0 hd0.ms.length capm0) (.slice ado0 hd0.os.length capo0) (.slice adt0 hd0.ts.length capt0) (hd0) ∧ HouseR w' (.slice (some ⟨gc_4, 0, none⟩) hd0.n hd0.n) (.slice (some ⟨gm_4, 0, none⟩) hd0.ms.length hd0.ms.length) (.slice (some ⟨go_4, 0, none⟩) hd0.os.length hd0.os.length) (.slice (some ⟨gt_4, 0, none⟩) hd0.ts.length hd0.ts.length) (hd0) ∧ Below w6_.heap.size w6_ w') :=
    fun w' hb => ⟨(hb.cell (p := ⟨w4_.heap.size, 0, none⟩) (by simp only []; omega)).trans kx0_0, (hb.cell (p := ⟨w4_.heap.size, 1, none⟩) (by simp only []; omega)).trans kx0_1, (hb.cell (p := ⟨w4_.heap.size, 2, none⟩) (by simp only []; omega)).trans kx0_2, (hb.cell (p := ⟨w4_.heap.size, 3, none⟩) (by simp only []; omega)).trans kx0_3, (hb.cell (p := ⟨w4_.heap.size, 4, none⟩) (by simp only []; omega)).trans kx0_4, (hb.cell (p := ⟨w4_.heap.size, 5, none⟩) (by simp only []; omega)).trans kx0_5, (hb.cell (p := ⟨w.heap.size, 0, none⟩) (by simp only []; omega)).trans kp0_0, (hb.cell (p := ⟨w.heap.size, 1, none⟩) (by simp only []; omega)).trans kp0_1, (hb.cell (p := ⟨w.heap.size, 2, none⟩) (by simp only []; omega)).trans kp0_2, (hb.cell (p := ⟨w.heap.size, 3, none⟩) (by simp only []; omega)).trans kp0_3, (hb.cell (p := ⟨w.heap.size, 4, none⟩) (by simp only []; omega)).trans kp0_4, (hb.cell (p := ⟨w.heap.size, 5, none⟩) (by simp only []; omega)).trans kp0_5, RP_.below hb, RX_.below hb, hb⟩
  clear RP_ RX_
  go_wp2_with fail
  go_region_held3 (fun w' => w'.cell? ⟨w4_.heap.size, 0, none⟩ = some ((.slice (some ⟨gc_4, 0, none⟩) hd0.n hd0.n)) ∧ w'.cell? ⟨w4_.heap.size, 1, none⟩ = some ((.slice (some ⟨gm_4, 0, none⟩) hd0.ms.length hd0.ms.length)) ∧ w'.cell? ⟨w4_.heap.size, 2, none⟩ = some ((.slice (some ⟨go_4, 0, none⟩) hd0.os.length hd0.os.length)) ∧ w'.cell? ⟨w4_.heap.size, 3, none⟩ = some ((.slice (some ⟨gt_4, 0, none⟩) hd0.ts.length hd0.ts.length)) ∧ w'.cell? ⟨w4_.heap.size, 4, none⟩ = some (.int .i64 (hd0).sent) ∧ w'.cell? ⟨w4_.heap.size, 5, none⟩ = some (.int .i64 (hd0).day) ∧ w'.cell? ⟨w.heap.size, 0, none⟩ = some ((.slice adc0 hd0.n capc0)) ∧ w'.cell? ⟨w.heap.size, 1, none⟩ = some ((.slice adm0 hd0.ms.length capm0)) ∧ w'.cell? ⟨w.heap.size, 2, none⟩ = some ((.slice ado0 hd0.os.length capo0)) ∧ w'.cell? ⟨w.heap.size, 3, none⟩ = some ((.slice adt0 hd0.ts.length capt0)) ∧ w'.cell? ⟨w.heap.size, 4, none⟩ = some (.int .i64 (hd0).sent) ∧ w'.cell? ⟨w.heap.size, 5, none⟩ = some (.int .i64 (hd0).day) ∧ HouseR w' (.slice adc0 hd0.n capc0) (.slice adm0 hd0.ms.length capm0) (.slice ado0 hd0.os.length capo0) (.slice adt0 hd0.ts.length capt0) (hd0) ∧ HouseR w' (.slice (some ⟨gc_4, 0, none⟩) hd0.n hd0.n) (.slice (some ⟨gm_4, 0, none⟩) hd0.ms.length hd0.ms.length) (.slice (some ⟨go_4, 0, none⟩) hd0.os.length hd0.os.length) (.slice (some ⟨gt_4, 0, none⟩) hd0.ts.length hd0.ts.length) (hd0) ∧ Below w6_.heap.size w6_ w')
    (first | exact MK.out _ (bdrew (bref _)) | (go_split_ands; exact MK.out _ (bnext (by assumption) hb7)) | (go_split_ands; exact MK.out _ (bnext (by assumption) hb8)))
    (first | (go_at_call 26; go_split_ands; refine (toHouse_any _ _ _ _ (hd0) _ (by assumption) hB0).mono ?_; rintro e w7_ ⟨gc_7, gm_7, go_7, gt_7, rfl, hO7, hb7⟩)
           | (go_at_call 29; go_split_ands; refine (eqHouse_same _ _ _ _ _ _ _ _ (hd0) _ (by assumption) ((hO7).read hB0)).mono ?_; rintro e w8_ ⟨rfl, hb8⟩))
  go_split_ands
  have hbq : Below w6_.heap.size w6_ w8_ := by assumption
  clear hb8
  have hb8 := hbq
  clear hbq MK
  have T8 := hb8
  have Z8 := hb8.size
  replace yp0 : w.heap.size < w8_.heap.size := by omega
  replace kp0_0 := (T8.cell (p := ⟨w.heap.size, 0, none⟩) (by simp only []; omega)).trans kp0_0
  replace kp0_1 := (T8.cell (p := ⟨w.heap.size, 1, none⟩) (by simp only []; omega)).trans kp0_1
  replace kp0_2 := (T8.cell (p := ⟨w.heap.size, 2, none⟩) (by simp only []; omega)).trans kp0_2
  replace kp0_3 := (T8.cell (p := ⟨w.heap.size, 3, none⟩) (by simp only []; omega)).trans kp0_3
  replace kp0_4 := (T8.cell (p := ⟨w.heap.size, 4, none⟩) (by simp only []; omega)).trans kp0_4
  replace kp0_5 := (T8.cell (p := ⟨w.heap.size, 5, none⟩) (by simp only []; omega)).trans kp0_5
  replace yx0 : w4_.heap.size < w8_.heap.size := by omega
  replace kx0_0 := (T8.cell (p := ⟨w4_.heap.size, 0, none⟩) (by simp only []; omega)).trans kx0_0
  replace kx0_1 := (T8.cell (p := ⟨w4_.heap.size, 1, none⟩) (by simp only []; omega)).trans kx0_1
  replace kx0_2 := (T8.cell (p := ⟨w4_.heap.size, 2, none⟩) (by simp only []; omega)).trans kx0_2
  replace kx0_3 := (T8.cell (p := ⟨w4_.heap.size, 3, none⟩) (by simp only []; omega)).trans kx0_3
  replace kx0_4 := (T8.cell (p := ⟨w4_.heap.size, 4, none⟩) (by simp only []; omega)).trans kx0_4
  replace kx0_5 := (T8.cell (p := ⟨w4_.heap.size, 5, none⟩) (by simp only []; omega)).trans kx0_5
  replace O_w0 := O_w0.below T8
  replace O_x0 := O_x0.below T8
  replace O_g0 := O_g0.below T8
  have D8 := bnext D6 T8
  clear T8 hb8
  go_wp2_with fail
  refine (markHouse_any _ _ _ _ (hd0) (1) _ _ _ O_x0 hB0 (by omega) (by omega)).mono ?_
  rintro e w9_ ⟨rfl, hO9, hb9⟩
  have T9 := hb9
  have Z9 := T9.size
  replace yp0 : w.heap.size < w9_.heap.size := by omega
  replace kp0_0 := (World.cell?_of_block (T9.block w.heap.size (by omega) (by omega))).trans kp0_0
  replace kp0_1 := (World.cell?_of_block (T9.block w.heap.size (by omega) (by omega))).trans kp0_1
  replace kp0_2 := (World.cell?_of_block (T9.block w.heap.size (by omega) (by omega))).trans kp0_2
  replace kp0_3 := (World.cell?_of_block (T9.block w.heap.size (by omega) (by omega))).trans kp0_3
  replace kp0_4 := (World.cell?_of_block (T9.block w.heap.size (by omega) (by omega))).trans kp0_4
  replace kp0_5 := (World.cell?_of_block (T9.block w.heap.size (by omega) (by omega))).trans kp0_5
  replace yx0 : w4_.heap.size < w9_.heap.size := by omega
  replace kx0_0 := (World.cell?_of_block (T9.block w4_.heap.size (by omega) (by omega))).trans kx0_0
  replace kx0_1 := (World.cell?_of_block (T9.block w4_.heap.size (by omega) (by omega))).trans kx0_1
  replace kx0_2 := (World.cell?_of_block (T9.block w4_.heap.size (by omega) (by omega))).trans kx0_2
  replace kx0_3 := (World.cell?_of_block (T9.block w4_.heap.size (by omega) (by omega))).trans kx0_3
  replace kx0_4 := (World.cell?_of_block (T9.block w4_.heap.size (by omega) (by omega))).trans kx0_4
  replace kx0_5 := (World.cell?_of_block (T9.block w4_.heap.size (by omega) (by omega))).trans kx0_5
  replace O_w0 := O_w0.only T9 (by unfold Off; omega)
  replace O_g0 := O_g0.only T9 (by unfold Off; omega)
  have D9 := Only.below D8 T9 (by omega)
  replace O_x0 := hO9
  clear hO9
  clear T9 hb9
  go_wp2_with fail
  refine (eqStringS_same _ _ (formatHouse hd0) _ (O_g0.read (by omega)) (O_w0.read (by omega))).mono ?_
  rintro e w10_ ⟨rfl, hb10⟩
  have T10 := hb10
  have Z10 := hb10.size
  replace yp0 : w.heap.size < w10_.heap.size := by omega
  replace kp0_0 := (T10.cell (p := ⟨w.heap.size, 0, none⟩) (by simp only []; omega)).trans kp0_0
  replace kp0_1 := (T10.cell (p := ⟨w.heap.size, 1, none⟩) (by simp only []; omega)).trans kp0_1
  replace kp0_2 := (T10.cell (p := ⟨w.heap.size, 2, none⟩) (by simp only []; omega)).trans kp0_2
  replace kp0_3 := (T10.cell (p := ⟨w.heap.size, 3, none⟩) (by simp only []; omega)).trans kp0_3
  replace kp0_4 := (T10.cell (p := ⟨w.heap.size, 4, none⟩) (by simp only []; omega)).trans kp0_4
  replace kp0_5 := (T10.cell (p := ⟨w.heap.size, 5, none⟩) (by simp only []; omega)).trans kp0_5
  replace yx0 : w4_.heap.size < w10_.heap.size := by omega
  replace kx0_0 := (T10.cell (p := ⟨w4_.heap.size, 0, none⟩) (by simp only []; omega)).trans kx0_0
  replace kx0_1 := (T10.cell (p := ⟨w4_.heap.size, 1, none⟩) (by simp only []; omega)).trans kx0_1
  replace kx0_2 := (T10.cell (p := ⟨w4_.heap.size, 2, none⟩) (by simp only []; omega)).trans kx0_2
  replace kx0_3 := (T10.cell (p := ⟨w4_.heap.size, 3, none⟩) (by simp only []; omega)).trans kx0_3
  replace kx0_4 := (T10.cell (p := ⟨w4_.heap.size, 4, none⟩) (by simp only []; omega)).trans kx0_4
  replace kx0_5 := (T10.cell (p := ⟨w4_.heap.size, 5, none⟩) (by simp only []; omega)).trans kx0_5
  replace O_w0 := O_w0.below T10
  replace O_x0 := O_x0.below T10
  replace O_g0 := O_g0.below T10
  have D10 := bnext D9 T10
  clear T10 hb10
  go_wp2_with fail
  clear O_x0
  clear kx0_0 kx0_1 kx0_2 kx0_3 kx0_4 kx0_5 yx0
  refine (markStringS_o _ (formatHouse hd0) (1) _ _ _ O_g0 (by omega) (by omega) (by omega)).mono ?_
  rintro e w11_ ⟨rfl, hO11, hb11⟩
  have T11 := hb11
  have Z11 := T11.size
  replace yp0 : w.heap.size < w11_.heap.size := by omega
  replace kp0_0 := (World.cell?_of_block (T11.block w.heap.size (by omega) (by omega))).trans kp0_0
  replace kp0_1 := (World.cell?_of_block (T11.block w.heap.size (by omega) (by omega))).trans kp0_1
  replace kp0_2 := (World.cell?_of_block (T11.block w.heap.size (by omega) (by omega))).trans kp0_2
  replace kp0_3 := (World.cell?_of_block (T11.block w.heap.size (by omega) (by omega))).trans kp0_3
  replace kp0_4 := (World.cell?_of_block (T11.block w.heap.size (by omega) (by omega))).trans kp0_4
  replace kp0_5 := (World.cell?_of_block (T11.block w.heap.size (by omega) (by omega))).trans kp0_5
  replace O_w0 := O_w0.only T11 (by unfold Off; omega)
  have D11 := Only.below D10 T11 (by omega)
  replace O_g0 := hO11
  clear hO11
  clear T11 hb11
  go_wp2_with fail
  refine (heldStringS_o _ (formatHouse hd0).length (1) _ _ _ O_g0 (by omega) (by omega) (by omega)).mono ?_
  rintro e w12_ ⟨rfl, hb12⟩
  have T12 := hb12
  have Z12 := hb12.size
  replace yp0 : w.heap.size < w12_.heap.size := by omega
  replace kp0_0 := (T12.cell (p := ⟨w.heap.size, 0, none⟩) (by simp only []; omega)).trans kp0_0
  replace kp0_1 := (T12.cell (p := ⟨w.heap.size, 1, none⟩) (by simp only []; omega)).trans kp0_1
  replace kp0_2 := (T12.cell (p := ⟨w.heap.size, 2, none⟩) (by simp only []; omega)).trans kp0_2
  replace kp0_3 := (T12.cell (p := ⟨w.heap.size, 3, none⟩) (by simp only []; omega)).trans kp0_3
  replace kp0_4 := (T12.cell (p := ⟨w.heap.size, 4, none⟩) (by simp only []; omega)).trans kp0_4
  replace kp0_5 := (T12.cell (p := ⟨w.heap.size, 5, none⟩) (by simp only []; omega)).trans kp0_5
  replace O_w0 := O_w0.below T12
  replace O_g0 := O_g0.below T12
  have D12 := bnext D11 T12
  clear T12 hb12
  go_wp2_with fail
  refine (toHouse_any _ _ _ _ (hd0) _ (h0.below D12) hB0).mono ?_
  rintro e w13_ ⟨gc_13, gm_13, go_13, gt_13, rfl, hO13, hb13⟩
  have T13 := hb13
  have Z13 := hb13.size
  replace yp0 : w.heap.size < w13_.heap.size := by omega
  replace kp0_0 := (T13.cell (p := ⟨w.heap.size, 0, none⟩) (by simp only []; omega)).trans kp0_0
  replace kp0_1 := (T13.cell (p := ⟨w.heap.size, 1, none⟩) (by simp only []; omega)).trans kp0_1
  replace kp0_2 := (T13.cell (p := ⟨w.heap.size, 2, none⟩) (by simp only []; omega)).trans kp0_2
  replace kp0_3 := (T13.cell (p := ⟨w.heap.size, 3, none⟩) (by simp only []; omega)).trans kp0_3
  replace kp0_4 := (T13.cell (p := ⟨w.heap.size, 4, none⟩) (by simp only []; omega)).trans kp0_4
  replace kp0_5 := (T13.cell (p := ⟨w.heap.size, 5, none⟩) (by simp only []; omega)).trans kp0_5
  replace O_w0 := O_w0.below T13
  replace O_g0 := O_g0.below T13
  have D13 := bnext D12 T13
  have O_s0 := hO13
  clear hO13
  clear T13 hb13
  go_wp2_with fail
  refine (implFormatHouse _ _ _ _ hd0 _ (O_s0.read hB0) (ht.below D13)).mono ?_
  rintro e w14_ ⟨v0_14, rfl, hO14, hb14⟩
  have T14 := hb14
  have Z14 := hb14.size
  replace yp0 : w.heap.size < w14_.heap.size := by omega
  replace kp0_0 := (T14.cell (p := ⟨w.heap.size, 0, none⟩) (by simp only []; omega)).trans kp0_0
  replace kp0_1 := (T14.cell (p := ⟨w.heap.size, 1, none⟩) (by simp only []; omega)).trans kp0_1
  replace kp0_2 := (T14.cell (p := ⟨w.heap.size, 2, none⟩) (by simp only []; omega)).trans kp0_2
  replace kp0_3 := (T14.cell (p := ⟨w.heap.size, 3, none⟩) (by simp only []; omega)).trans kp0_3
  replace kp0_4 := (T14.cell (p := ⟨w.heap.size, 4, none⟩) (by simp only []; omega)).trans kp0_4
  replace kp0_5 := (T14.cell (p := ⟨w.heap.size, 5, none⟩) (by simp only []; omega)).trans kp0_5
  replace O_w0 := O_w0.below T14
  replace O_g0 := O_g0.below T14
  replace O_s0 := O_s0.below T14
  have D14 := bnext D13 T14
  have O_h0 := TextO.of hO14
  clear hO14
  clear T14 hb14
  go_wp2_with fail
  clear O_s0
  refine (eqStringS_same _ _ (formatHouse hd0) _ (O_h0.read (by omega)) (O_w0.read (by omega))).mono ?_
  rintro e w15_ ⟨rfl, hb15⟩
  have T15 := hb15
  have Z15 := hb15.size
  replace yp0 : w.heap.size < w15_.heap.size := by omega
  replace kp0_0 := (T15.cell (p := ⟨w.heap.size, 0, none⟩) (by simp only []; omega)).trans kp0_0
  replace kp0_1 := (T15.cell (p := ⟨w.heap.size, 1, none⟩) (by simp only []; omega)).trans kp0_1
  replace kp0_2 := (T15.cell (p := ⟨w.heap.size, 2, none⟩) (by simp only []; omega)).trans kp0_2
  replace kp0_3 := (T15.cell (p := ⟨w.heap.size, 3, none⟩) (by simp only []; omega)).trans kp0_3
  replace kp0_4 := (T15.cell (p := ⟨w.heap.size, 4, none⟩) (by simp only []; omega)).trans kp0_4
  replace kp0_5 := (T15.cell (p := ⟨w.heap.size, 5, none⟩) (by simp only []; omega)).trans kp0_5
  replace O_w0 := O_w0.below T15
  replace O_g0 := O_g0.below T15
  replace O_h0 := O_h0.below T15
  have D15 := bnext D14 T15
  clear T15 hb15
  go_wp2_with fail
  refine (heldStringS_o _ (formatHouse hd0).length (1) _ _ _ O_g0 (by omega) (by omega) (by omega)).mono ?_
  rintro e w16_ ⟨rfl, hb16⟩
  have T16 := hb16
  have Z16 := hb16.size
  replace yp0 : w.heap.size < w16_.heap.size := by omega
  replace kp0_0 := (T16.cell (p := ⟨w.heap.size, 0, none⟩) (by simp only []; omega)).trans kp0_0
  replace kp0_1 := (T16.cell (p := ⟨w.heap.size, 1, none⟩) (by simp only []; omega)).trans kp0_1
  replace kp0_2 := (T16.cell (p := ⟨w.heap.size, 2, none⟩) (by simp only []; omega)).trans kp0_2
  replace kp0_3 := (T16.cell (p := ⟨w.heap.size, 3, none⟩) (by simp only []; omega)).trans kp0_3
  replace kp0_4 := (T16.cell (p := ⟨w.heap.size, 4, none⟩) (by simp only []; omega)).trans kp0_4
  replace kp0_5 := (T16.cell (p := ⟨w.heap.size, 5, none⟩) (by simp only []; omega)).trans kp0_5
  replace O_w0 := O_w0.below T16
  replace O_g0 := O_g0.below T16
  replace O_h0 := O_h0.below T16
  have D16 := bnext D15 T16
  clear T16 hb16
  go_wp2
  go_ret
  exact ⟨rfl, D16⟩
end Go.Proofs.YtdeongecbmjkjaaDoor
