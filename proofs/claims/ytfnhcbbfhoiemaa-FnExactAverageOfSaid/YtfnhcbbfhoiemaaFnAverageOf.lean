/- The law that compares AverageOf with the reference, walked. -/
import Derived.Test.YtfnhcbbfhoiemaaAverage
import Derived.Test.YtfnhcbbfhoiemaaLot
import Derived.Test.YtfnhcbbfhoiemaaOnly
import Derived.Test.YtfnhcbbfhoiemaaFracS
import Derived.Deep.RegionHeld3
namespace Go.Proofs.Ytfnhcbbfhoiemaa
open Go.ChangeShapes Go.WideShapes Go.ChangeAt Go.RowKit
set_option maxRecDepth 100000 in
set_option maxHeartbeats 4000000 in
theorem fnExactAverageOf_any (nm0 : Int) (v0 : Value) (x0 : List Int) (w : World) (h0 : Ints w v0 x0) :
    Calls Try.prog 4 #[.agg #[.int .i64 nm0, v0]] w fun e w' => e = .returned (.bool true) ∧ Below w.heap.size w w' := by
  obtain ⟨ad0, cap0, rfl⟩ : ∃ ad cap, v0 = .slice ad x0.length cap := by obtain ⟨_, ad, cap, hh, _⟩ := h0; exact ⟨ad, cap, hh⟩
  have l0 := h0.len
  by_cases q0 : (1048576 : Int) < ((x0).length : Int)
  · skip
    go_enter Try.func4, Try.ntmps4
    go_wp2_with fail
    refine (szLot_any _ _ (x0) (1048576) _ (h0.below (balloc (bref _) _)) (by omega) (by omega)).mono ?_
    rintro e w1_ ⟨rfl, hb1⟩
    have T1 := bnext (balloc (bref _) _) hb1
    have Z1 : w.heap.size + 1 ≤ w1_.heap.size := by have h := hb1.size; simp at h; omega
    have yp0 : w.heap.size < w1_.heap.size := by omega
    have kp0_0 : w1_.cell? ⟨w.heap.size, 0, none⟩ = some (.int .i64 nm0) := (hb1.cell (p := ⟨w.heap.size, 0, none⟩) (by simp)).trans (by simp)
    have kp0_1 : w1_.cell? ⟨w.heap.size, 1, none⟩ = some ((.slice ad0 x0.length cap0)) := (hb1.cell (p := ⟨w.heap.size, 1, none⟩) (by simp)).trans (by simp)
    have D1 := bnext (bref w) T1
    clear T1 hb1
    rw [if_pos (by omega)]
    go_wp2
    go_ret
    exact ⟨rfl, D1⟩
  go_enter Try.func4, Try.ntmps4
  go_wp2_with fail
  refine (szLot_any _ _ (x0) (1048576) _ (h0.below (balloc (bref _) _)) (by omega) (by omega)).mono ?_
  rintro e w1_ ⟨rfl, hb1⟩
  have T1 := bnext (balloc (bref _) _) hb1
  have Z1 : w.heap.size + 1 ≤ w1_.heap.size := by have h := hb1.size; simp at h; omega
  have yp0 : w.heap.size < w1_.heap.size := by omega
  have kp0_0 : w1_.cell? ⟨w.heap.size, 0, none⟩ = some (.int .i64 nm0) := (hb1.cell (p := ⟨w.heap.size, 0, none⟩) (by simp)).trans (by simp)
  have kp0_1 : w1_.cell? ⟨w.heap.size, 1, none⟩ = some ((.slice ad0 x0.length cap0)) := (hb1.cell (p := ⟨w.heap.size, 1, none⟩) (by simp)).trans (by simp)
  have D1 := bnext (bref w) T1
  clear T1 hb1
  rw [if_neg (by omega)]
  go_wp2_with fail
  refine (toLot_any nm0 _ (x0) _ (h0.below D1) (by omega)).mono ?_
  rintro e w2_ ⟨g_2, rfl, hO2, hb2⟩
  have T2 := hb2
  have Z2 := hb2.size
  replace yp0 : w.heap.size < w2_.heap.size := by omega
  replace kp0_0 := (T2.cell (p := ⟨w.heap.size, 0, none⟩) (by simp only []; omega)).trans kp0_0
  replace kp0_1 := (T2.cell (p := ⟨w.heap.size, 1, none⟩) (by simp only []; omega)).trans kp0_1
  have D2 := bnext D1 T2
  have O_s0 := RowO.of hO2
  clear hO2
  clear T2 hb2
  go_wp2_with fail
  refine (specAverageOf nm0 _ x0 _ (O_s0.ints (by omega))).mono ?_
  rintro e w3_ ⟨rfl, hb3⟩
  have T3 := hb3
  have Z3 := hb3.size
  replace yp0 : w.heap.size < w3_.heap.size := by omega
  replace kp0_0 := (T3.cell (p := ⟨w.heap.size, 0, none⟩) (by simp only []; omega)).trans kp0_0
  replace kp0_1 := (T3.cell (p := ⟨w.heap.size, 1, none⟩) (by simp only []; omega)).trans kp0_1
  replace O_s0 := O_s0.below T3
  have D3 := bnext D2 T3
  clear T3 hb3
  go_wp2_with fail
  clear O_s0
  refine (toLot_any nm0 _ (x0) _ ((h0.below D3).below (balloc (bref _) _)) (by omega)).mono ?_
  rintro e w4_ ⟨g_4, rfl, hO4, hb4⟩
  have T4 := bnext (balloc (bref _) _) hb4
  have Z4 : w3_.heap.size + 1 ≤ w4_.heap.size := by have h := hb4.size; simp at h; omega
  replace yp0 : w.heap.size < w4_.heap.size := by omega
  replace kp0_0 := (T4.cell (p := ⟨w.heap.size, 0, none⟩) (by simp only []; omega)).trans kp0_0
  replace kp0_1 := (T4.cell (p := ⟨w.heap.size, 1, none⟩) (by simp only []; omega)).trans kp0_1
  have yw0 : w3_.heap.size < w4_.heap.size := by omega
  have kw0_0 : w4_.cell? ⟨w3_.heap.size, 0, none⟩ = some (.int .i64 (avgN nm0 x0).1) := (hb4.cell (p := ⟨w3_.heap.size, 0, none⟩) (by simp)).trans (by simp)
  have kw0_1 : w4_.cell? ⟨w3_.heap.size, 1, none⟩ = some (.int .i64 (avgN nm0 x0).2.1) := (hb4.cell (p := ⟨w3_.heap.size, 1, none⟩) (by simp)).trans (by simp)
  have D4 := bnext D3 T4
  have O_x0 := (RowO.of hO4).wide (lo' := w3_.heap.size) (by first | (simp; done) | (simp; omega)) (Nat.le_refl _)
  clear hO4
  clear T4 hb4
  go_wp2_with fail
  refine (implAverageOf nm0 _ x0 _ ((O_x0.ints (by omega)).below (balloc (bref _) _))).mono ?_
  rintro e w5_ ⟨rfl, hb5⟩
  have T5 := bnext (balloc (bref _) _) hb5
  have Z5 : w4_.heap.size + 1 ≤ w5_.heap.size := by have h := hb5.size; simp at h; omega
  replace yp0 : w.heap.size < w5_.heap.size := by omega
  replace kp0_0 := (T5.cell (p := ⟨w.heap.size, 0, none⟩) (by simp only []; omega)).trans kp0_0
  replace kp0_1 := (T5.cell (p := ⟨w.heap.size, 1, none⟩) (by simp only []; omega)).trans kp0_1
  replace yw0 : w3_.heap.size < w5_.heap.size := by omega
  replace kw0_0 := (T5.cell (p := ⟨w3_.heap.size, 0, none⟩) (by simp only []; omega)).trans kw0_0
  replace kw0_1 := (T5.cell (p := ⟨w3_.heap.size, 1, none⟩) (by simp only []; omega)).trans kw0_1
  have yx0 : w4_.heap.size < w5_.heap.size := by omega
  have kx0_0 : w5_.cell? ⟨w4_.heap.size, 0, none⟩ = some (.int .i64 nm0) := (hb5.cell (p := ⟨w4_.heap.size, 0, none⟩) (by simp)).trans (by simp)
  have kx0_1 : w5_.cell? ⟨w4_.heap.size, 1, none⟩ = some ((.slice (some ⟨g_4, 0, none⟩) (x0).length (x0).length)) := (hb5.cell (p := ⟨w4_.heap.size, 1, none⟩) (by simp)).trans (by simp)
  replace O_x0 := O_x0.below T5
  have D5 := bnext D4 T5
  clear T5 hb5
  go_wp2_with fail
  refine (eqFraction_same ((avgN nm0 x0).1) ((avgN nm0 x0).2.1) _).mono ?_
  rintro e w6_ ⟨rfl, hb6⟩
  have T6 := bnext (balloc (bref _) _) hb6
  have Z6 : w5_.heap.size + 1 ≤ w6_.heap.size := by have h := hb6.size; simp at h; omega
  replace yp0 : w.heap.size < w6_.heap.size := by omega
  replace kp0_0 := (T6.cell (p := ⟨w.heap.size, 0, none⟩) (by simp only []; omega)).trans kp0_0
  replace kp0_1 := (T6.cell (p := ⟨w.heap.size, 1, none⟩) (by simp only []; omega)).trans kp0_1
  replace yw0 : w3_.heap.size < w6_.heap.size := by omega
  replace kw0_0 := (T6.cell (p := ⟨w3_.heap.size, 0, none⟩) (by simp only []; omega)).trans kw0_0
  replace kw0_1 := (T6.cell (p := ⟨w3_.heap.size, 1, none⟩) (by simp only []; omega)).trans kw0_1
  replace yx0 : w4_.heap.size < w6_.heap.size := by omega
  replace kx0_0 := (T6.cell (p := ⟨w4_.heap.size, 0, none⟩) (by simp only []; omega)).trans kx0_0
  replace kx0_1 := (T6.cell (p := ⟨w4_.heap.size, 1, none⟩) (by simp only []; omega)).trans kx0_1
  have yg0 : w5_.heap.size < w6_.heap.size := by omega
  have kg0_0 : w6_.cell? ⟨w5_.heap.size, 0, none⟩ = some (.int .i64 (avgN nm0 x0).1) := (hb6.cell (p := ⟨w5_.heap.size, 0, none⟩) (by simp)).trans (by simp)
  have kg0_1 : w6_.cell? ⟨w5_.heap.size, 1, none⟩ = some (.int .i64 (avgN nm0 x0).2.1) := (hb6.cell (p := ⟨w5_.heap.size, 1, none⟩) (by simp)).trans (by simp)
  replace O_x0 := O_x0.below T6
  have D6 := bnext D5 T6
  clear T6 hb6
  go_wp2_with fail
  have RP_ := (h0.below D6)
  have RX_ := (O_x0.ints (by omega))
  have MK : Hid (∀ w', Below w6_.heap.size w6_ w' → w'.cell? ⟨w4_.heap.size, 0, none⟩ = some (.int .i64 nm0) ∧ w'.cell? ⟨w4_.heap.size, 1, none⟩ = some ((.slice (some ⟨g_4, 0, none⟩) (x0).length (x0).length)) ∧ w'.cell? ⟨w.heap.size, 0, none⟩ = some (.int .i64 nm0) ∧ w'.cell? ⟨w.heap.size, 1, none⟩ = some ((.slice ad0 x0.length cap0)) ∧ Ints w' (.slice ad0 x0.length cap0) (x0) ∧ Ints w' (.slice (some ⟨g_4, 0, none⟩) (x0).length (x0).length) (x0) ∧ Below w6_.heap.size w6_ w') :=
    fun w' hb => ⟨(hb.cell (p := ⟨w4_.heap.size, 0, none⟩) (by simp only []; omega)).trans kx0_0, (hb.cell (p := ⟨w4_.heap.size, 1, none⟩) (by simp only []; omega)).trans kx0_1, (hb.cell (p := ⟨w.heap.size, 0, none⟩) (by simp only []; omega)).trans kp0_0, (hb.cell (p := ⟨w.heap.size, 1, none⟩) (by simp only []; omega)).trans kp0_1, RP_.below hb, RX_.below hb, hb⟩
  clear RP_ RX_
  go_wp2_with fail
  go_region_held3 (fun w' => w'.cell? ⟨w4_.heap.size, 0, none⟩ = some (.int .i64 nm0) ∧ w'.cell? ⟨w4_.heap.size, 1, none⟩ = some ((.slice (some ⟨g_4, 0, none⟩) (x0).length (x0).length)) ∧ w'.cell? ⟨w.heap.size, 0, none⟩ = some (.int .i64 nm0) ∧ w'.cell? ⟨w.heap.size, 1, none⟩ = some ((.slice ad0 x0.length cap0)) ∧ Ints w' (.slice ad0 x0.length cap0) (x0) ∧ Ints w' (.slice (some ⟨g_4, 0, none⟩) (x0).length (x0).length) (x0) ∧ Below w6_.heap.size w6_ w')
    (first | exact MK.out _ (bdrew (bref _)) | (go_split_ands; exact MK.out _ (bnext (by assumption) hb7)) | (go_split_ands; exact MK.out _ (bnext (by assumption) hb8)))
    (first | (go_at_call 25; go_split_ands; refine (toLot_any nm0 _ (x0) _ (by assumption) (by omega)).mono ?_; rintro e w7_ ⟨g_7, rfl, hO7, hb7⟩)
           | (go_at_call 28; go_split_ands; refine (eqLot_any _ _ _ _ (x0) (x0) _ (by assumption) ((RowO.of hO7).ints (by omega))).mono ?_; rintro e w8_ ⟨rfl, hb8⟩))
  go_split_ands
  have hbq : Below w6_.heap.size w6_ w8_ := by assumption
  clear hb8
  have hb8 := hbq
  clear hbq MK
  have T8 := hb8
  have Z8 := hb8.size
  replace yp0 : w.heap.size < w8_.heap.size := by omega
  replace kp0_0 := (T8.cell (p := ⟨w.heap.size, 0, none⟩) (by simp only []; omega)).trans kp0_0
  replace kp0_1 := (T8.cell (p := ⟨w.heap.size, 1, none⟩) (by simp only []; omega)).trans kp0_1
  replace yw0 : w3_.heap.size < w8_.heap.size := by omega
  replace kw0_0 := (T8.cell (p := ⟨w3_.heap.size, 0, none⟩) (by simp only []; omega)).trans kw0_0
  replace kw0_1 := (T8.cell (p := ⟨w3_.heap.size, 1, none⟩) (by simp only []; omega)).trans kw0_1
  replace yx0 : w4_.heap.size < w8_.heap.size := by omega
  replace kx0_0 := (T8.cell (p := ⟨w4_.heap.size, 0, none⟩) (by simp only []; omega)).trans kx0_0
  replace kx0_1 := (T8.cell (p := ⟨w4_.heap.size, 1, none⟩) (by simp only []; omega)).trans kx0_1
  replace yg0 : w5_.heap.size < w8_.heap.size := by omega
  replace kg0_0 := (T8.cell (p := ⟨w5_.heap.size, 0, none⟩) (by simp only []; omega)).trans kg0_0
  replace kg0_1 := (T8.cell (p := ⟨w5_.heap.size, 1, none⟩) (by simp only []; omega)).trans kg0_1
  replace O_x0 := O_x0.below T8
  have D8 := bnext D6 T8
  clear T8 hb8
  go_wp2
  go_ret
  exact ⟨rfl, D8⟩
end Go.Proofs.Ytfnhcbbfhoiemaa
