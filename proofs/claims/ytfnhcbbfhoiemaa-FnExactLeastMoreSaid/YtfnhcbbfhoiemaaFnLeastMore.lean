/- The law that compares LeastMore with the reference, walked. -/
import Derived.Test.YtfnhcbbfhoiemaaLeastMore
import Derived.Test.YtfnhcbbfhoiemaaLeastMoreS
import Derived.Test.YtfnhcbbfhoiemaaLot
import Derived.Test.YtfnhcbbfhoiemaaOnly
import Derived.Deep.RegionHeld3
namespace Go.Proofs.Ytfnhcbbfhoiemaa
open Go.ChangeShapes Go.WideShapes Go.ChangeAt Go.RowKit
set_option maxRecDepth 100000 in
set_option maxHeartbeats 4000000 in
theorem fnExactLeastMore_any (nm0 : Int) (v0 : Value) (x0 : List Int) (w : World) (h0 : Ints w v0 x0) :
    Calls Try.prog 5 #[.agg #[.int .i64 nm0, v0]] w fun e w' => e = .returned (.bool true) ∧ Below w.heap.size w w' := by
  obtain ⟨ad0, cap0, rfl⟩ : ∃ ad cap, v0 = .slice ad x0.length cap := by obtain ⟨_, ad, cap, hh, _⟩ := h0; exact ⟨ad, cap, hh⟩
  have l0 := h0.len
  by_cases q0 : (1048576 : Int) < ((x0).length : Int)
  · skip
    go_enter Try.func5, Try.ntmps5
    go_wp2_with fail
    refine (szLot_any _ _ (x0) (1048576) _ (h0.below (balloc (bref _) _)) (by omega) (by omega)).mono ?_
    rintro e w1_ ⟨rfl, hb1⟩
    have T1 := bnext (balloc (bref _) _) hb1
    have Z1 : w.heap.size + 1 ≤ w1_.heap.size := by have h := hb1.size; simp at h; omega
    have yp0 : w.heap.size < w1_.heap.size := by omega
    have kp0_0 : w1_.cell? ⟨w.heap.size, 0, none⟩ = some (.int .i64 nm0) := (hb1.cell (p := ⟨w.heap.size, 0, none⟩) (by simp)).trans (by simp)
    have kp0_1 : w1_.cell? ⟨w.heap.size, 1, none⟩ = some ((.slice ad0 x0.length cap0)) := (hb1.cell (p := ⟨w.heap.size, 1, none⟩) (by simp)).trans (by simp)
    have D1 := bnext (bref w) T1
    clear T1 hb1
    rw [if_pos (by omega)]
    go_wp2
    go_ret
    exact ⟨rfl, D1⟩
  go_enter Try.func5, Try.ntmps5
  go_wp2_with fail
  refine (szLot_any _ _ (x0) (1048576) _ (h0.below (balloc (bref _) _)) (by omega) (by omega)).mono ?_
  rintro e w1_ ⟨rfl, hb1⟩
  have T1 := bnext (balloc (bref _) _) hb1
  have Z1 : w.heap.size + 1 ≤ w1_.heap.size := by have h := hb1.size; simp at h; omega
  have yp0 : w.heap.size < w1_.heap.size := by omega
  have kp0_0 : w1_.cell? ⟨w.heap.size, 0, none⟩ = some (.int .i64 nm0) := (hb1.cell (p := ⟨w.heap.size, 0, none⟩) (by simp)).trans (by simp)
  have kp0_1 : w1_.cell? ⟨w.heap.size, 1, none⟩ = some ((.slice ad0 x0.length cap0)) := (hb1.cell (p := ⟨w.heap.size, 1, none⟩) (by simp)).trans (by simp)
  have D1 := bnext (bref w) T1
  clear T1 hb1
  rw [if_neg (by omega)]
  go_wp2_with fail
  refine (toLot_any nm0 _ (x0) _ (h0.below D1) (by omega)).mono ?_
  rintro e w2_ ⟨g_2, rfl, hO2, hb2⟩
  have T2 := hb2
  have Z2 := hb2.size
  replace yp0 : w.heap.size < w2_.heap.size := by omega
  replace kp0_0 := (T2.cell (p := ⟨w.heap.size, 0, none⟩) (by simp only []; omega)).trans kp0_0
  replace kp0_1 := (T2.cell (p := ⟨w.heap.size, 1, none⟩) (by simp only []; omega)).trans kp0_1
  have D2 := bnext D1 T2
  have O_s0 := RowO.of hO2
  clear hO2
  clear T2 hb2
  go_wp2_with fail
  refine (specLeastMore nm0 _ x0 _ (O_s0.ints (by omega)) (nilOk_some _ _ _) (by omega)).mono ?_
  rintro e w3_ ⟨rfl, hb3⟩
  have T3 := hb3
  have Z3 := hb3.size
  replace yp0 : w.heap.size < w3_.heap.size := by omega
  replace kp0_0 := (T3.cell (p := ⟨w.heap.size, 0, none⟩) (by simp only []; omega)).trans kp0_0
  replace kp0_1 := (T3.cell (p := ⟨w.heap.size, 1, none⟩) (by simp only []; omega)).trans kp0_1
  replace O_s0 := O_s0.below T3
  have D3 := bnext D2 T3
  clear T3 hb3
  go_wp2_with fail
  clear O_s0
  refine (toLot_any nm0 _ (x0) _ (h0.below D3) (by omega)).mono ?_
  rintro e w4_ ⟨g_4, rfl, hO4, hb4⟩
  have T4 := hb4
  have Z4 := hb4.size
  replace yp0 : w.heap.size < w4_.heap.size := by omega
  replace kp0_0 := (T4.cell (p := ⟨w.heap.size, 0, none⟩) (by simp only []; omega)).trans kp0_0
  replace kp0_1 := (T4.cell (p := ⟨w.heap.size, 1, none⟩) (by simp only []; omega)).trans kp0_1
  have D4 := bnext D3 T4
  have O_x0 := RowO.of hO4
  clear hO4
  clear T4 hb4
  go_wp2_with fail
  refine (implLeastMore nm0 _ x0 _ ((O_x0.ints (by omega)).below (balloc (bref _) _)) (nilOk_some _ _ _) (by omega)).mono ?_
  rintro e w5_ ⟨rfl, hb5⟩
  have T5 := bnext (balloc (bref _) _) hb5
  have Z5 : w4_.heap.size + 1 ≤ w5_.heap.size := by have h := hb5.size; simp at h; omega
  replace yp0 : w.heap.size < w5_.heap.size := by omega
  replace kp0_0 := (T5.cell (p := ⟨w.heap.size, 0, none⟩) (by simp only []; omega)).trans kp0_0
  replace kp0_1 := (T5.cell (p := ⟨w.heap.size, 1, none⟩) (by simp only []; omega)).trans kp0_1
  have yx0 : w4_.heap.size < w5_.heap.size := by omega
  have kx0_0 : w5_.cell? ⟨w4_.heap.size, 0, none⟩ = some (.int .i64 nm0) := (hb5.cell (p := ⟨w4_.heap.size, 0, none⟩) (by simp)).trans (by simp)
  have kx0_1 : w5_.cell? ⟨w4_.heap.size, 1, none⟩ = some ((.slice (some ⟨g_4, 0, none⟩) (x0).length (x0).length)) := (hb5.cell (p := ⟨w4_.heap.size, 1, none⟩) (by simp)).trans (by simp)
  replace O_x0 := O_x0.below T5
  have D5 := bnext D4 T5
  clear T5 hb5
  go_wp2_with fail
  have RP_ := (h0.below D5)
  have RX_ := (O_x0.ints (by omega))
  have MK : Hid (∀ w', Below w5_.heap.size w5_ w' → w'.cell? ⟨w4_.heap.size, 0, none⟩ = some (.int .i64 nm0) ∧ w'.cell? ⟨w4_.heap.size, 1, none⟩ = some ((.slice (some ⟨g_4, 0, none⟩) (x0).length (x0).length)) ∧ w'.cell? ⟨w.heap.size, 0, none⟩ = some (.int .i64 nm0) ∧ w'.cell? ⟨w.heap.size, 1, none⟩ = some ((.slice ad0 x0.length cap0)) ∧ Ints w' (.slice ad0 x0.length cap0) (x0) ∧ Ints w' (.slice (some ⟨g_4, 0, none⟩) (x0).length (x0).length) (x0) ∧ Below w5_.heap.size w5_ w') :=
    fun w' hb => ⟨(hb.cell (p := ⟨w4_.heap.size, 0, none⟩) (by simp only []; omega)).trans kx0_0, (hb.cell (p := ⟨w4_.heap.size, 1, none⟩) (by simp only []; omega)).trans kx0_1, (hb.cell (p := ⟨w.heap.size, 0, none⟩) (by simp only []; omega)).trans kp0_0, (hb.cell (p := ⟨w.heap.size, 1, none⟩) (by simp only []; omega)).trans kp0_1, RP_.below hb, RX_.below hb, hb⟩
  clear RP_ RX_
  go_wp2_with fail
  go_region_held3 (fun w' => w'.cell? ⟨w4_.heap.size, 0, none⟩ = some (.int .i64 nm0) ∧ w'.cell? ⟨w4_.heap.size, 1, none⟩ = some ((.slice (some ⟨g_4, 0, none⟩) (x0).length (x0).length)) ∧ w'.cell? ⟨w.heap.size, 0, none⟩ = some (.int .i64 nm0) ∧ w'.cell? ⟨w.heap.size, 1, none⟩ = some ((.slice ad0 x0.length cap0)) ∧ Ints w' (.slice ad0 x0.length cap0) (x0) ∧ Ints w' (.slice (some ⟨g_4, 0, none⟩) (x0).length (x0).length) (x0) ∧ Below w5_.heap.size w5_ w')
    (first | exact MK.out _ (bdrew (bref _)) | (go_split_ands; exact MK.out _ (bnext (by assumption) hb6)) | (go_split_ands; exact MK.out _ (bnext (by assumption) hb7)))
    (first | (go_at_call 25; go_split_ands; refine (toLot_any nm0 _ (x0) _ (by assumption) (by omega)).mono ?_; rintro e w6_ ⟨g_6, rfl, hO6, hb6⟩)
           | (go_at_call 28; go_split_ands; refine (eqLot_any _ _ _ _ (x0) (x0) _ (by assumption) ((RowO.of hO6).ints (by omega))).mono ?_; rintro e w7_ ⟨rfl, hb7⟩))
  go_split_ands
  have hbq : Below w5_.heap.size w5_ w7_ := by assumption
  clear hb7
  have hb7 := hbq
  clear hbq MK
  have T7 := hb7
  have Z7 := hb7.size
  replace yp0 : w.heap.size < w7_.heap.size := by omega
  replace kp0_0 := (T7.cell (p := ⟨w.heap.size, 0, none⟩) (by simp only []; omega)).trans kp0_0
  replace kp0_1 := (T7.cell (p := ⟨w.heap.size, 1, none⟩) (by simp only []; omega)).trans kp0_1
  replace yx0 : w4_.heap.size < w7_.heap.size := by omega
  replace kx0_0 := (T7.cell (p := ⟨w4_.heap.size, 0, none⟩) (by simp only []; omega)).trans kx0_0
  replace kx0_1 := (T7.cell (p := ⟨w4_.heap.size, 1, none⟩) (by simp only []; omega)).trans kx0_1
  replace O_x0 := O_x0.below T7
  have D7 := bnext D5 T7
  clear T7 hb7
  go_wp2
  go_ret
  exact ⟨rfl, D7⟩
end Go.Proofs.Ytfnhcbbfhoiemaa
