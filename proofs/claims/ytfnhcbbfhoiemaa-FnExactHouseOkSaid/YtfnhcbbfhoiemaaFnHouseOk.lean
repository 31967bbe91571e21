/- The law that compares HouseOk with the reference, walked. -/
import Derived.Test.YtfnhcbbfhoiemaaHouseOk
import Derived.Test.YtfnhcbbfhoiemaaHouseS
import Derived.Deep.RegionHeld3
namespace Go.Proofs.Ytfnhcbbfhoiemaa
open Go.ChangeShapes Go.WideShapes Go.ChangeAt Go.RowKit
set_option maxRecDepth 100000 in
set_option maxHeartbeats 4000000 in
theorem fnExactHouseOk_any (vc0 vm0 vo0 vt0 : Value) (hd0 : HD) (w : World) (h0 : HouseR w vc0 vm0 vo0 vt0 hd0) :
    Calls Try.prog 8 #[.agg #[vc0, vm0, vo0, vt0, .int .i64 (hd0).sent, .int .i64 (hd0).day]] w fun e w' => e = .returned (.bool true) ∧ Below w.heap.size w w' := by
  obtain ⟨adc0, capc0, rfl⟩ : ∃ ad cap, vc0 = .slice ad hd0.n cap := by obtain ⟨_, _, ad, cap, hh, _⟩ := h0.c; exact ⟨ad, cap, hh⟩
  obtain ⟨adm0, capm0, rfl⟩ : ∃ ad cap, vm0 = .slice ad hd0.ms.length cap := by obtain ⟨_, ad, cap, hh, _⟩ := h0.m; exact ⟨ad, cap, hh⟩
  obtain ⟨ado0, capo0, rfl⟩ : ∃ ad cap, vo0 = .slice ad hd0.os.length cap := by obtain ⟨_, ad, cap, hh, _⟩ := h0.o; exact ⟨ad, cap, hh⟩
  obtain ⟨adt0, capt0, rfl⟩ : ∃ ad cap, vt0 = .slice ad hd0.ts.length cap := by obtain ⟨_, ad, cap, hh, _⟩ := h0.t; exact ⟨ad, cap, hh⟩
  by_cases q0 : (1048576 : Int) < ((hd0).size : Int)
  · skip
    go_enter Try.func8, Try.ntmps8
    go_wp2_with fail
    refine (szHouse_any _ _ _ _ (hd0) (1048576) _ (h0.below (balloc (bref _) _)) (by omega) (by omega)).mono ?_
    rintro e w1_ ⟨rfl, hb1⟩
    have T1 := bnext (balloc (bref _) _) hb1
    have Z1 : w.heap.size + 1 ≤ w1_.heap.size := by have h := hb1.size; simp at h; omega
    have yp0 : w.heap.size < w1_.heap.size := by omega
    have kp0_0 : w1_.cell? ⟨w.heap.size, 0, none⟩ = some ((.slice adc0 hd0.n capc0)) := (hb1.cell (p := ⟨w.heap.size, 0, none⟩) (by simp)).trans (by simp)
    have kp0_1 : w1_.cell? ⟨w.heap.size, 1, none⟩ = some ((.slice adm0 hd0.ms.length capm0)) := (hb1.cell (p := ⟨w.heap.size, 1, none⟩) (by simp)).trans (by simp)
    have kp0_2 : w1_.cell? ⟨w.heap.size, 2, none⟩ = some ((.slice ado0 hd0.os.length capo0)) := (hb1.cell (p := ⟨w.heap.size, 2, none⟩) (by simp)).trans (by simp)
    have kp0_3 : w1_.cell? ⟨w.heap.size, 3, none⟩ = some ((.slice adt0 hd0.ts.length capt0)) := (hb1.cell (p := ⟨w.heap.size, 3, none⟩) (by simp)).trans (by simp)
    have kp0_4 : w1_.cell? ⟨w.heap.size, 4, none⟩ = some (.int .i64 (hd0).sent) := (hb1.cell (p := ⟨w.heap.size, 4, none⟩) (by simp)).trans (by simp)
    have kp0_5 : w1_.cell? ⟨w.heap.size, 5, none⟩ = some (.int .i64 (hd0).day) := (hb1.cell (p := ⟨w.heap.size, 5, none⟩) (by simp)).trans (by simp)
    have D1 := bnext (bref w) T1
    clear T1 hb1
    rw [szRes_lt (by omega)]
    go_wp2
    go_ret
    exact ⟨rfl, D1⟩
  have hB0 : HouseB hd0 1048576 := ⟨by unfold HD.size at q0; omega, by unfold HD.size at q0; omega, by unfold HD.size at q0; omega, by unfold HD.size at q0; omega⟩
  go_enter Try.func8, Try.ntmps8
  go_wp2_with fail
  refine (szHouse_any _ _ _ _ (hd0) (1048576) _ (h0.below (balloc (bref _) _)) (by omega) (by omega)).mono ?_
  rintro e w1_ ⟨rfl, hb1⟩
  have T1 := bnext (balloc (bref _) _) hb1
  have Z1 : w.heap.size + 1 ≤ w1_.heap.size := by have h := hb1.size; simp at h; omega
  have yp0 : w.heap.size < w1_.heap.size := by omega
  have kp0_0 : w1_.cell? ⟨w.heap.size, 0, none⟩ = some ((.slice adc0 hd0.n capc0)) := (hb1.cell (p := ⟨w.heap.size, 0, none⟩) (by simp)).trans (by simp)
  have kp0_1 : w1_.cell? ⟨w.heap.size, 1, none⟩ = some ((.slice adm0 hd0.ms.length capm0)) := (hb1.cell (p := ⟨w.heap.size, 1, none⟩) (by simp)).trans (by simp)
  have kp0_2 : w1_.cell? ⟨w.heap.size, 2, none⟩ = some ((.slice ado0 hd0.os.length capo0)) := (hb1.cell (p := ⟨w.heap.size, 2, none⟩) (by simp)).trans (by simp)
  have kp0_3 : w1_.cell? ⟨w.heap.size, 3, none⟩ = some ((.slice adt0 hd0.ts.length capt0)) := (hb1.cell (p := ⟨w.heap.size, 3, none⟩) (by simp)).trans (by simp)
  have kp0_4 : w1_.cell? ⟨w.heap.size, 4, none⟩ = some (.int .i64 (hd0).sent) := (hb1.cell (p := ⟨w.heap.size, 4, none⟩) (by simp)).trans (by simp)
  have kp0_5 : w1_.cell? ⟨w.heap.size, 5, none⟩ = some (.int .i64 (hd0).day) := (hb1.cell (p := ⟨w.heap.size, 5, none⟩) (by simp)).trans (by simp)
  have D1 := bnext (bref w) T1
  clear T1 hb1
  rw [szRes_ge (by omega)]
  go_wp2_with fail
  refine (toHouse_any _ _ _ _ (hd0) _ (h0.below D1) hB0).mono ?_
  rintro e w2_ ⟨gc_2, gm_2, go_2, gt_2, rfl, hO2, hb2⟩
  have T2 := hb2
  have Z2 := hb2.size
  replace yp0 : w.heap.size < w2_.heap.size := by omega
  replace kp0_0 := (T2.cell (p := ⟨w.heap.size, 0, none⟩) (by simp only []; omega)).trans kp0_0
  replace kp0_1 := (T2.cell (p := ⟨w.heap.size, 1, none⟩) (by simp only []; omega)).trans kp0_1
  replace kp0_2 := (T2.cell (p := ⟨w.heap.size, 2, none⟩) (by simp only []; omega)).trans kp0_2
  replace kp0_3 := (T2.cell (p := ⟨w.heap.size, 3, none⟩) (by simp only []; omega)).trans kp0_3
  replace kp0_4 := (T2.cell (p := ⟨w.heap.size, 4, none⟩) (by simp only []; omega)).trans kp0_4
  replace kp0_5 := (T2.cell (p := ⟨w.heap.size, 5, none⟩) (by simp only []; omega)).trans kp0_5
  have D2 := bnext D1 T2
  have O_s0 := hO2
  clear hO2
  clear T2 hb2
  go_wp2_with fail
  refine (specHouseOk _ _ _ _ hd0 _ (O_s0.read hB0)).mono ?_
  rintro e w3_ ⟨rfl, hb3⟩
  have T3 := hb3
  have Z3 := hb3.size
  replace yp0 : w.heap.size < w3_.heap.size := by omega
  replace kp0_0 := (T3.cell (p := ⟨w.heap.size, 0, none⟩) (by simp only []; omega)).trans kp0_0
  replace kp0_1 := (T3.cell (p := ⟨w.heap.size, 1, none⟩) (by simp only []; omega)).trans kp0_1
  replace kp0_2 := (T3.cell (p := ⟨w.heap.size, 2, none⟩) (by simp only []; omega)).trans kp0_2
  replace kp0_3 := (T3.cell (p := ⟨w.heap.size, 3, none⟩) (by simp only []; omega)).trans kp0_3
  replace kp0_4 := (T3.cell (p := ⟨w.heap.size, 4, none⟩) (by simp only []; omega)).trans kp0_4
  replace kp0_5 := (T3.cell (p := ⟨w.heap.size, 5, none⟩) (by simp only []; omega)).trans kp0_5
  replace O_s0 := O_s0.below T3
  have D3 := bnext D2 T3
  clear T3 hb3
  go_wp2_with fail
  clear O_s0
  refine (toHouse_any _ _ _ _ (hd0) _ (h0.below D3) hB0).mono ?_
  rintro e w4_ ⟨gc_4, gm_4, go_4, gt_4, rfl, hO4, hb4⟩
  have T4 := hb4
  have Z4 := hb4.size
  replace yp0 : w.heap.size < w4_.heap.size := by omega
  replace kp0_0 := (T4.cell (p := ⟨w.heap.size, 0, none⟩) (by simp only []; omega)).trans kp0_0
  replace kp0_1 := (T4.cell (p := ⟨w.heap.size, 1, none⟩) (by simp only []; omega)).trans kp0_1
  replace kp0_2 := (T4.cell (p := ⟨w.heap.size, 2, none⟩) (by simp only []; omega)).trans kp0_2
  replace kp0_3 := (T4.cell (p := ⟨w.heap.size, 3, none⟩) (by simp only []; omega)).trans kp0_3
  replace kp0_4 := (T4.cell (p := ⟨w.heap.size, 4, none⟩) (by simp only []; omega)).trans kp0_4
  replace kp0_5 := (T4.cell (p := ⟨w.heap.size, 5, none⟩) (by simp only []; omega)).trans kp0_5
  have D4 := bnext D3 T4
  have O_x0 := hO4
  clear hO4
  clear T4 hb4
  go_wp2_with fail
  refine (implHouseOk _ _ _ _ hd0 _ ((O_x0.read hB0).below (balloc (bref _) _))).mono ?_
  rintro e w5_ ⟨rfl, hb5⟩
  have T5 := bnext (balloc (bref _) _) hb5
  have Z5 : w4_.heap.size + 1 ≤ w5_.heap.size := by have h := hb5.size; simp at h; omega
  replace yp0 : w.heap.size < w5_.heap.size := by omega
  replace kp0_0 := (T5.cell (p := ⟨w.heap.size, 0, none⟩) (by simp only []; omega)).trans kp0_0
  replace kp0_1 := (T5.cell (p := ⟨w.heap.size, 1, none⟩) (by simp only []; omega)).trans kp0_1
  replace kp0_2 := (T5.cell (p := ⟨w.heap.size, 2, none⟩) (by simp only []; omega)).trans kp0_2
  replace kp0_3 := (T5.cell (p := ⟨w.heap.size, 3, none⟩) (by simp only []; omega)).trans kp0_3
  replace kp0_4 := (T5.cell (p := ⟨w.heap.size, 4, none⟩) (by simp only []; omega)).trans kp0_4
  replace kp0_5 := (T5.cell (p := ⟨w.heap.size, 5, none⟩) (by simp only []; omega)).trans kp0_5
  have yx0 : w4_.heap.size < w5_.heap.size := by omega
  have kx0_0 : w5_.cell? ⟨w4_.heap.size, 0, none⟩ = some ((.slice (some ⟨gc_4, 0, none⟩) hd0.n hd0.n)) := (hb5.cell (p := ⟨w4_.heap.size, 0, none⟩) (by simp)).trans (by simp)
  have kx0_1 : w5_.cell? ⟨w4_.heap.size, 1, none⟩ = some ((.slice (some ⟨gm_4, 0, none⟩) hd0.ms.length hd0.ms.length)) := (hb5.cell (p := ⟨w4_.heap.size, 1, none⟩) (by simp)).trans (by simp)
  have kx0_2 : w5_.cell? ⟨w4_.heap.size, 2, none⟩ = some ((.slice (some ⟨go_4, 0, none⟩) hd0.os.length hd0.os.length)) := (hb5.cell (p := ⟨w4_.heap.size, 2, none⟩) (by simp)).trans (by simp)
  have kx0_3 : w5_.cell? ⟨w4_.heap.size, 3, none⟩ = some ((.slice (some ⟨gt_4, 0, none⟩) hd0.ts.length hd0.ts.length)) := (hb5.cell (p := ⟨w4_.heap.size, 3, none⟩) (by simp)).trans (by simp)
  have kx0_4 : w5_.cell? ⟨w4_.heap.size, 4, none⟩ = some (.int .i64 (hd0).sent) := (hb5.cell (p := ⟨w4_.heap.size, 4, none⟩) (by simp)).trans (by simp)
  have kx0_5 : w5_.cell? ⟨w4_.heap.size, 5, none⟩ = some (.int .i64 (hd0).day) := (hb5.cell (p := ⟨w4_.heap.size, 5, none⟩) (by simp)).trans (by simp)
  replace O_x0 := O_x0.below T5
  have D5 := bnext D4 T5
  clear T5 hb5
  go_wp2_with fail
  have RP_ := (h0.below D5)
  have RX_ := (O_x0.read hB0)
  have MK : Hid (∀ w', Below w5_.heap.size w5_ w' → w'.cell? ⟨w4_.heap.size, 0, none⟩ = some ((.slice (some ⟨gc_4, 0, none⟩) hd0.n hd0.n)) ∧ w'.cell? ⟨w4_.heap.size, 1, none⟩ = some ((.slice (some ⟨gm_4, 0, none⟩) hd0.ms.length hd0.ms.length)) ∧ w'.cell? ⟨w4_.heap.size, 2, none⟩ = some ((.slice (some ⟨go_4, 0, none⟩) hd0.os.length hd0.os.length)) ∧ w'.cell? ⟨w4_.heap.size, 3, none⟩ = some ((.slice (some ⟨gt_4, 0, none⟩) hd0.ts.length hd0.ts.length)) ∧ w'.cell? ⟨w4_.heap.size, 4, none⟩ = some (.int .i64 (hd0).sent) ∧ w'.cell? ⟨w4_.heap.size, 5, none⟩ = some (.int .i64 (hd0).day) ∧ w'.cell? ⟨w.heap.size, 0, none⟩ = some ((.slice adc0 hd0.n capc0)) ∧ w'.cell? ⟨w.heap.size, 1, none⟩ = some ((.slice adm0 hd0.ms.length capm0)) ∧ w'.cell? ⟨w.heap.size, 2, none⟩ = some ((.slice ado0 hd0.os.length capo0)) ∧ w'.cell? ⟨w.heap.size, 3, none⟩ = some ((.slice adt0 hd0.ts.length capt0)) ∧ w'.cell? ⟨w.heap.size, 4, none⟩ = some (.int .i64 (hd0).sent) ∧ w'.cell? ⟨w.heap.size, 5, none⟩ = some (.int .i64 (hd0).day) ∧ HouseR w' (.slice adc0 hd0.n capc0) (.slice adm0 hd0.ms.length capm0) (.slice ado0 hd0.os.length capo0) (.slice adt0 hd0.ts.length capt0) (hd0) ∧ HouseR w' (.slice (some ⟨gc_4, 0, none⟩) hd0.n hd0.n) (.slice (some ⟨gm_4, 0, none⟩) hd0.ms.length hd0.ms.length) (.slice (some ⟨go_4, 0, none⟩) hd0.os.length hd0.os.length) (.slice (some ⟨gt_4, 0, none⟩) hd0.ts.length hd0.ts.length) (hd0) ∧ Below w5_.heap.size w5_ w') :=
    fun w' hb => ⟨(hb.cell (p := ⟨w4_.heap.size, 0, none⟩) (by simp only []; omega)).trans kx0_0, (hb.cell (p := ⟨w4_.heap.size, 1, none⟩) (by simp only []; omega)).trans kx0_1, (hb.cell (p := ⟨w4_.heap.size, 2, none⟩) (by simp only []; omega)).trans kx0_2, (hb.cell (p := ⟨w4_.heap.size, 3, none⟩) (by simp only []; omega)).trans kx0_3, (hb.cell (p := ⟨w4_.heap.size, 4, none⟩) (by simp only []; omega)).trans kx0_4, (hb.cell (p := ⟨w4_.heap.size, 5, none⟩) (by simp only []; omega)).trans kx0_5, (hb.cell (p := ⟨w.heap.size, 0, none⟩) (by simp only []; omega)).trans kp0_0, (hb.cell (p := ⟨w.heap.size, 1, none⟩) (by simp only []; omega)).trans kp0_1, (hb.cell (p := ⟨w.heap.size, 2, none⟩) (by simp only []; omega)).trans kp0_2, (hb.cell (p := ⟨w.heap.size, 3, none⟩) (by simp only []; omega)).trans kp0_3, (hb.cell (p := ⟨w.heap.size, 4, none⟩) (by simp only []; omega)).trans kp0_4, (hb.cell (p := ⟨w.heap.size, 5, none⟩) (by simp only []; omega)).trans kp0_5, RP_.below hb, RX_.below hb, hb⟩
  clear RP_ RX_
  go_wp2_with fail
  go_region_held3 (fun w' => w'.cell? ⟨w4_.heap.size, 0, none⟩ = some ((.slice (some ⟨gc_4, 0, none⟩) hd0.n hd0.n)) ∧ w'.cell? ⟨w4_.heap.size, 1, none⟩ = some ((.slice (some ⟨gm_4, 0, none⟩) hd0.ms.length hd0.ms.length)) ∧ w'.cell? ⟨w4_.heap.size, 2, none⟩ = some ((.slice (some ⟨go_4, 0, none⟩) hd0.os.length hd0.os.length)) ∧ w'.cell? ⟨w4_.heap.size, 3, none⟩ = some ((.slice (some ⟨gt_4, 0, none⟩) hd0.ts.length hd0.ts.length)) ∧ w'.cell? ⟨w4_.heap.size, 4, none⟩ = some (.int .i64 (hd0).sent) ∧ w'.cell? ⟨w4_.heap.size, 5, none⟩ = some (.int .i64 (hd0).day) ∧ w'.cell? ⟨w.heap.size, 0, none⟩ = some ((.slice adc0 hd0.n capc0)) ∧ w'.cell? ⟨w.heap.size, 1, none⟩ = some ((.slice adm0 hd0.ms.length capm0)) ∧ w'.cell? ⟨w.heap.size, 2, none⟩ = some ((.slice ado0 hd0.os.length capo0)) ∧ w'.cell? ⟨w.heap.size, 3, none⟩ = some ((.slice adt0 hd0.ts.length capt0)) ∧ w'.cell? ⟨w.heap.size, 4, none⟩ = some (.int .i64 (hd0).sent) ∧ w'.cell? ⟨w.heap.size, 5, none⟩ = some (.int .i64 (hd0).day) ∧ HouseR w' (.slice adc0 hd0.n capc0) (.slice adm0 hd0.ms.length capm0) (.slice ado0 hd0.os.length capo0) (.slice adt0 hd0.ts.length capt0) (hd0) ∧ HouseR w' (.slice (some ⟨gc_4, 0, none⟩) hd0.n hd0.n) (.slice (some ⟨gm_4, 0, none⟩) hd0.ms.length hd0.ms.length) (.slice (some ⟨go_4, 0, none⟩) hd0.os.length hd0.os.length) (.slice (some ⟨gt_4, 0, none⟩) hd0.ts.length hd0.ts.length) (hd0) ∧ Below w5_.heap.size w5_ w')
    (first | exact MK.out _ (bdrew (bref _)) | (go_split_ands; exact MK.out _ (bnext (by assumption) hb6)) | (go_split_ands; exact MK.out _ (bnext (by assumption) hb7)))
    (first | (go_at_call 43; go_split_ands; refine (toHouse_any _ _ _ _ (hd0) _ (by assumption) hB0).mono ?_; rintro e w6_ ⟨gc_6, gm_6, go_6, gt_6, rfl, hO6, hb6⟩)
           | (go_at_call 45; go_split_ands; refine (eqHouse_same _ _ _ _ _ _ _ _ (hd0) _ (by assumption) ((hO6).read hB0)).mono ?_; rintro e w7_ ⟨rfl, hb7⟩))
  go_split_ands
  have hbq : Below w5_.heap.size w5_ w7_ := by assumption
  clear hb7
  have hb7 := hbq
  clear hbq MK
  have T7 := hb7
  have Z7 := hb7.size
  replace yp0 : w.heap.size < w7_.heap.size := by omega
  replace kp0_0 := (T7.cell (p := ⟨w.heap.size, 0, none⟩) (by simp only []; omega)).trans kp0_0
  replace kp0_1 := (T7.cell (p := ⟨w.heap.size, 1, none⟩) (by simp only []; omega)).trans kp0_1
  replace kp0_2 := (T7.cell (p := ⟨w.heap.size, 2, none⟩) (by simp only []; omega)).trans kp0_2
  replace kp0_3 := (T7.cell (p := ⟨w.heap.size, 3, none⟩) (by simp only []; omega)).trans kp0_3
  replace kp0_4 := (T7.cell (p := ⟨w.heap.size, 4, none⟩) (by simp only []; omega)).trans kp0_4
  replace kp0_5 := (T7.cell (p := ⟨w.heap.size, 5, none⟩) (by simp only []; omega)).trans kp0_5
  replace yx0 : w4_.heap.size < w7_.heap.size := by omega
  replace kx0_0 := (T7.cell (p := ⟨w4_.heap.size, 0, none⟩) (by simp only []; omega)).trans kx0_0
  replace kx0_1 := (T7.cell (p := ⟨w4_.heap.size, 1, none⟩) (by simp only []; omega)).trans kx0_1
  replace kx0_2 := (T7.cell (p := ⟨w4_.heap.size, 2, none⟩) (by simp only []; omega)).trans kx0_2
  replace kx0_3 := (T7.cell (p := ⟨w4_.heap.size, 3, none⟩) (by simp only []; omega)).trans kx0_3
  replace kx0_4 := (T7.cell (p := ⟨w4_.heap.size, 4, none⟩) (by simp only []; omega)).trans kx0_4
  replace kx0_5 := (T7.cell (p := ⟨w4_.heap.size, 5, none⟩) (by simp only []; omega)).trans kx0_5
  replace O_x0 := O_x0.below T7
  have D7 := bnext D5 T7
  clear T7 hb7
  go_wp2
  go_ret
  exact ⟨rfl, D7⟩
end Go.Proofs.Ytfnhcbbfhoiemaa
