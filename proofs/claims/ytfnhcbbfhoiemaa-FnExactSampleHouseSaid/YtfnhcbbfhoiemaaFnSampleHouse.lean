/- The law that compares SampleHouse with the reference, walked. -/
import Derived.Test.YtfnhcbbfhoiemaaNewHouse
import Derived.Test.YtfnhcbbfhoiemaaHouseS
import Derived.Deep.RegionHeld3
namespace Go.Proofs.Ytfnhcbbfhoiemaa
open Go.ChangeShapes Go.WideShapes Go.ChangeAt Go.RowKit
set_option maxRecDepth 100000 in
set_option maxHeartbeats 4000000 in
theorem fnExactSampleHouse_any  (w : World)  :
    Calls Try.prog 10 #[] w fun e w' => e = .returned (.bool true) ∧ Below w.heap.size w w' := by
  have hN := newHouse_b 1000 0
  have keyS := specSampleHouse
  have keyI := implSampleHouse
  generalize (newHouse 1000 0).1 = hd at hN keyS keyI
  have hK := bulk_le hN
  go_enter Try.func10, Try.ntmps10
  go_wp2_with fail
  refine (keyS _).mono ?_
  rintro e w1_ ⟨ac_1, cc_1, am_1, cm_1, ao_1, co_1, at_1, ct_1, rfl, hO1, hb1⟩
  have T1 := hb1
  have Z1 := hb1.size
  have D1 := bnext (bref w) T1
  have O_w0 := hO1
  clear hO1
  clear T1 hb1
  go_wp2_with fail
  refine (keyI _).mono ?_
  rintro e w2_ ⟨ac_2, cc_2, am_2, cm_2, ao_2, co_2, at_2, ct_2, rfl, hO2, hb2⟩
  have T2 := bnext (balloc (bref _) _) hb2
  have Z2 : w1_.heap.size + 1 ≤ w2_.heap.size := by have h := hb2.size; simp at h; omega
  have yw0 : w1_.heap.size < w2_.heap.size := by omega
  have kw0_0 : w2_.cell? ⟨w1_.heap.size, 0, none⟩ = some ((.slice ac_1 (hd).n cc_1)) := (hb2.cell (p := ⟨w1_.heap.size, 0, none⟩) (by simp)).trans (by simp)
  have kw0_1 : w2_.cell? ⟨w1_.heap.size, 1, none⟩ = some ((.slice am_1 (hd).ms.length cm_1)) := (hb2.cell (p := ⟨w1_.heap.size, 1, none⟩) (by simp)).trans (by simp)
  have kw0_2 : w2_.cell? ⟨w1_.heap.size, 2, none⟩ = some ((.slice ao_1 (hd).os.length co_1)) := (hb2.cell (p := ⟨w1_.heap.size, 2, none⟩) (by simp)).trans (by simp)
  have kw0_3 : w2_.cell? ⟨w1_.heap.size, 3, none⟩ = some ((.slice at_1 (hd).ts.length ct_1)) := (hb2.cell (p := ⟨w1_.heap.size, 3, none⟩) (by simp)).trans (by simp)
  have kw0_4 : w2_.cell? ⟨w1_.heap.size, 4, none⟩ = some (.int .i64 (hd).sent) := (hb2.cell (p := ⟨w1_.heap.size, 4, none⟩) (by simp)).trans (by simp)
  have kw0_5 : w2_.cell? ⟨w1_.heap.size, 5, none⟩ = some (.int .i64 (hd).day) := (hb2.cell (p := ⟨w1_.heap.size, 5, none⟩) (by simp)).trans (by simp)
  replace O_w0 := O_w0.below T2
  have D2 := bnext D1 T2
  have O_g0 := (hO2).wide (lo' := w1_.heap.size + 1) (by first | (simp; done) | (simp; omega)) (Nat.le_refl _)
  clear hO2
  clear T2 hb2
  go_wp2_with fail
  refine (eqHouse_same _ _ _ _ _ _ _ _ (hd) _ ((O_g0.read hN).below (balloc (bref _) _)) ((O_w0.read hN).below (balloc (bref _) _))).mono ?_
  rintro e w3_ ⟨rfl, hb3⟩
  have T3 := bnext (balloc (bref _) _) hb3
  have Z3 : w2_.heap.size + 1 ≤ w3_.heap.size := by have h := hb3.size; simp at h; omega
  replace yw0 : w1_.heap.size < w3_.heap.size := by omega
  replace kw0_0 := (T3.cell (p := ⟨w1_.heap.size, 0, none⟩) (by simp only []; omega)).trans kw0_0
  replace kw0_1 := (T3.cell (p := ⟨w1_.heap.size, 1, none⟩) (by simp only []; omega)).trans kw0_1
  replace kw0_2 := (T3.cell (p := ⟨w1_.heap.size, 2, none⟩) (by simp only []; omega)).trans kw0_2
  replace kw0_3 := (T3.cell (p := ⟨w1_.heap.size, 3, none⟩) (by simp only []; omega)).trans kw0_3
  replace kw0_4 := (T3.cell (p := ⟨w1_.heap.size, 4, none⟩) (by simp only []; omega)).trans kw0_4
  replace kw0_5 := (T3.cell (p := ⟨w1_.heap.size, 5, none⟩) (by simp only []; omega)).trans kw0_5
  have yg0 : w2_.heap.size < w3_.heap.size := by omega
  have kg0_0 : w3_.cell? ⟨w2_.heap.size, 0, none⟩ = some ((.slice ac_2 (hd).n cc_2)) := (hb3.cell (p := ⟨w2_.heap.size, 0, none⟩) (by simp)).trans (by simp)
  have kg0_1 : w3_.cell? ⟨w2_.heap.size, 1, none⟩ = some ((.slice am_2 (hd).ms.length cm_2)) := (hb3.cell (p := ⟨w2_.heap.size, 1, none⟩) (by simp)).trans (by simp)
  have kg0_2 : w3_.cell? ⟨w2_.heap.size, 2, none⟩ = some ((.slice ao_2 (hd).os.length co_2)) := (hb3.cell (p := ⟨w2_.heap.size, 2, none⟩) (by simp)).trans (by simp)
  have kg0_3 : w3_.cell? ⟨w2_.heap.size, 3, none⟩ = some ((.slice at_2 (hd).ts.length ct_2)) := (hb3.cell (p := ⟨w2_.heap.size, 3, none⟩) (by simp)).trans (by simp)
  have kg0_4 : w3_.cell? ⟨w2_.heap.size, 4, none⟩ = some (.int .i64 (hd).sent) := (hb3.cell (p := ⟨w2_.heap.size, 4, none⟩) (by simp)).trans (by simp)
  have kg0_5 : w3_.cell? ⟨w2_.heap.size, 5, none⟩ = some (.int .i64 (hd).day) := (hb3.cell (p := ⟨w2_.heap.size, 5, none⟩) (by simp)).trans (by simp)
  replace O_w0 := O_w0.below T3
  replace O_g0 := O_g0.below T3
  have D3 := bnext D2 T3
  clear T3 hb3
  go_wp2_with fail
  refine (markHouse_any _ _ _ _ (hd) (1) _ _ _ O_g0 hN (by omega) (by omega)).mono ?_
  rintro e w4_ ⟨rfl, hO4, hb4⟩
  have T4 := hb4
  have Z4 := T4.size
  replace yw0 : w1_.heap.size < w4_.heap.size := by omega
  replace kw0_0 := (World.cell?_of_block (T4.block w1_.heap.size (by omega) (by omega))).trans kw0_0
  replace kw0_1 := (World.cell?_of_block (T4.block w1_.heap.size (by omega) (by omega))).trans kw0_1
  replace kw0_2 := (World.cell?_of_block (T4.block w1_.heap.size (by omega) (by omega))).trans kw0_2
  replace kw0_3 := (World.cell?_of_block (T4.block w1_.heap.size (by omega) (by omega))).trans kw0_3
  replace kw0_4 := (World.cell?_of_block (T4.block w1_.heap.size (by omega) (by omega))).trans kw0_4
  replace kw0_5 := (World.cell?_of_block (T4.block w1_.heap.size (by omega) (by omega))).trans kw0_5
  replace yg0 : w2_.heap.size < w4_.heap.size := by omega
  replace kg0_0 := (World.cell?_of_block (T4.block w2_.heap.size (by omega) (by omega))).trans kg0_0
  replace kg0_1 := (World.cell?_of_block (T4.block w2_.heap.size (by omega) (by omega))).trans kg0_1
  replace kg0_2 := (World.cell?_of_block (T4.block w2_.heap.size (by omega) (by omega))).trans kg0_2
  replace kg0_3 := (World.cell?_of_block (T4.block w2_.heap.size (by omega) (by omega))).trans kg0_3
  replace kg0_4 := (World.cell?_of_block (T4.block w2_.heap.size (by omega) (by omega))).trans kg0_4
  replace kg0_5 := (World.cell?_of_block (T4.block w2_.heap.size (by omega) (by omega))).trans kg0_5
  replace O_w0 := O_w0.only T4 (by unfold Off; omega)
  have D4 := Only.below D3 T4 (by omega)
  replace O_g0 := hO4
  clear hO4
  clear T4 hb4
  go_wp2_with fail
  refine (heldHouse_any _ _ _ _ (hd) (1) _ _ _ O_g0 hN (by omega) (by omega)).mono ?_
  rintro e w5_ ⟨rfl, hb5⟩
  have T5 := hb5
  have Z5 := hb5.size
  replace yw0 : w1_.heap.size < w5_.heap.size := by omega
  replace kw0_0 := (T5.cell (p := ⟨w1_.heap.size, 0, none⟩) (by simp only []; omega)).trans kw0_0
  replace kw0_1 := (T5.cell (p := ⟨w1_.heap.size, 1, none⟩) (by simp only []; omega)).trans kw0_1
  replace kw0_2 := (T5.cell (p := ⟨w1_.heap.size, 2, none⟩) (by simp only []; omega)).trans kw0_2
  replace kw0_3 := (T5.cell (p := ⟨w1_.heap.size, 3, none⟩) (by simp only []; omega)).trans kw0_3
  replace kw0_4 := (T5.cell (p := ⟨w1_.heap.size, 4, none⟩) (by simp only []; omega)).trans kw0_4
  replace kw0_5 := (T5.cell (p := ⟨w1_.heap.size, 5, none⟩) (by simp only []; omega)).trans kw0_5
  replace yg0 : w2_.heap.size < w5_.heap.size := by omega
  replace kg0_0 := (T5.cell (p := ⟨w2_.heap.size, 0, none⟩) (by simp only []; omega)).trans kg0_0
  replace kg0_1 := (T5.cell (p := ⟨w2_.heap.size, 1, none⟩) (by simp only []; omega)).trans kg0_1
  replace kg0_2 := (T5.cell (p := ⟨w2_.heap.size, 2, none⟩) (by simp only []; omega)).trans kg0_2
  replace kg0_3 := (T5.cell (p := ⟨w2_.heap.size, 3, none⟩) (by simp only []; omega)).trans kg0_3
  replace kg0_4 := (T5.cell (p := ⟨w2_.heap.size, 4, none⟩) (by simp only []; omega)).trans kg0_4
  replace kg0_5 := (T5.cell (p := ⟨w2_.heap.size, 5, none⟩) (by simp only []; omega)).trans kg0_5
  replace O_w0 := O_w0.below T5
  replace O_g0 := O_g0.below T5
  have D5 := bnext D4 T5
  clear T5 hb5
  go_wp2_with fail
  refine (keyI _).mono ?_
  rintro e w6_ ⟨ac_6, cc_6, am_6, cm_6, ao_6, co_6, at_6, ct_6, rfl, hO6, hb6⟩
  have T6 := hb6
  have Z6 := hb6.size
  replace yw0 : w1_.heap.size < w6_.heap.size := by omega
  replace kw0_0 := (T6.cell (p := ⟨w1_.heap.size, 0, none⟩) (by simp only []; omega)).trans kw0_0
  replace kw0_1 := (T6.cell (p := ⟨w1_.heap.size, 1, none⟩) (by simp only []; omega)).trans kw0_1
  replace kw0_2 := (T6.cell (p := ⟨w1_.heap.size, 2, none⟩) (by simp only []; omega)).trans kw0_2
  replace kw0_3 := (T6.cell (p := ⟨w1_.heap.size, 3, none⟩) (by simp only []; omega)).trans kw0_3
  replace kw0_4 := (T6.cell (p := ⟨w1_.heap.size, 4, none⟩) (by simp only []; omega)).trans kw0_4
  replace kw0_5 := (T6.cell (p := ⟨w1_.heap.size, 5, none⟩) (by simp only []; omega)).trans kw0_5
  replace yg0 : w2_.heap.size < w6_.heap.size := by omega
  replace kg0_0 := (T6.cell (p := ⟨w2_.heap.size, 0, none⟩) (by simp only []; omega)).trans kg0_0
  replace kg0_1 := (T6.cell (p := ⟨w2_.heap.size, 1, none⟩) (by simp only []; omega)).trans kg0_1
  replace kg0_2 := (T6.cell (p := ⟨w2_.heap.size, 2, none⟩) (by simp only []; omega)).trans kg0_2
  replace kg0_3 := (T6.cell (p := ⟨w2_.heap.size, 3, none⟩) (by simp only []; omega)).trans kg0_3
  replace kg0_4 := (T6.cell (p := ⟨w2_.heap.size, 4, none⟩) (by simp only []; omega)).trans kg0_4
  replace kg0_5 := (T6.cell (p := ⟨w2_.heap.size, 5, none⟩) (by simp only []; omega)).trans kg0_5
  replace O_w0 := O_w0.below T6
  replace O_g0 := O_g0.below T6
  have D6 := bnext D5 T6
  have O_h0 := hO6
  clear hO6
  clear T6 hb6
  go_wp2_with fail
  refine (eqHouse_same _ _ _ _ _ _ _ _ (hd) _ ((O_h0.read hN).below (balloc (bref _) _)) ((O_w0.read hN).below (balloc (bref _) _))).mono ?_
  rintro e w7_ ⟨rfl, hb7⟩
  have T7 := bnext (balloc (bref _) _) hb7
  have Z7 : w6_.heap.size + 1 ≤ w7_.heap.size := by have h := hb7.size; simp at h; omega
  replace yw0 : w1_.heap.size < w7_.heap.size := by omega
  replace kw0_0 := (T7.cell (p := ⟨w1_.heap.size, 0, none⟩) (by simp only []; omega)).trans kw0_0
  replace kw0_1 := (T7.cell (p := ⟨w1_.heap.size, 1, none⟩) (by simp only []; omega)).trans kw0_1
  replace kw0_2 := (T7.cell (p := ⟨w1_.heap.size, 2, none⟩) (by simp only []; omega)).trans kw0_2
  replace kw0_3 := (T7.cell (p := ⟨w1_.heap.size, 3, none⟩) (by simp only []; omega)).trans kw0_3
  replace kw0_4 := (T7.cell (p := ⟨w1_.heap.size, 4, none⟩) (by simp only []; omega)).trans kw0_4
  replace kw0_5 := (T7.cell (p := ⟨w1_.heap.size, 5, none⟩) (by simp only []; omega)).trans kw0_5
  replace yg0 : w2_.heap.size < w7_.heap.size := by omega
  replace kg0_0 := (T7.cell (p := ⟨w2_.heap.size, 0, none⟩) (by simp only []; omega)).trans kg0_0
  replace kg0_1 := (T7.cell (p := ⟨w2_.heap.size, 1, none⟩) (by simp only []; omega)).trans kg0_1
  replace kg0_2 := (T7.cell (p := ⟨w2_.heap.size, 2, none⟩) (by simp only []; omega)).trans kg0_2
  replace kg0_3 := (T7.cell (p := ⟨w2_.heap.size, 3, none⟩) (by simp only []; omega)).trans kg0_3
  replace kg0_4 := (T7.cell (p := ⟨w2_.heap.size, 4, none⟩) (by simp only []; omega)).trans kg0_4
  replace kg0_5 := (T7.cell (p := ⟨w2_.heap.size, 5, none⟩) (by simp only []; omega)).trans kg0_5
  have yh0 : w6_.heap.size < w7_.heap.size := by omega
  have kh0_0 : w7_.cell? ⟨w6_.heap.size, 0, none⟩ = some ((.slice ac_6 (hd).n cc_6)) := (hb7.cell (p := ⟨w6_.heap.size, 0, none⟩) (by simp)).trans (by simp)
  have kh0_1 : w7_.cell? ⟨w6_.heap.size, 1, none⟩ = some ((.slice am_6 (hd).ms.length cm_6)) := (hb7.cell (p := ⟨w6_.heap.size, 1, none⟩) (by simp)).trans (by simp)
  have kh0_2 : w7_.cell? ⟨w6_.heap.size, 2, none⟩ = some ((.slice ao_6 (hd).os.length co_6)) := (hb7.cell (p := ⟨w6_.heap.size, 2, none⟩) (by simp)).trans (by simp)
  have kh0_3 : w7_.cell? ⟨w6_.heap.size, 3, none⟩ = some ((.slice at_6 (hd).ts.length ct_6)) := (hb7.cell (p := ⟨w6_.heap.size, 3, none⟩) (by simp)).trans (by simp)
  have kh0_4 : w7_.cell? ⟨w6_.heap.size, 4, none⟩ = some (.int .i64 (hd).sent) := (hb7.cell (p := ⟨w6_.heap.size, 4, none⟩) (by simp)).trans (by simp)
  have kh0_5 : w7_.cell? ⟨w6_.heap.size, 5, none⟩ = some (.int .i64 (hd).day) := (hb7.cell (p := ⟨w6_.heap.size, 5, none⟩) (by simp)).trans (by simp)
  replace O_w0 := O_w0.below T7
  replace O_g0 := O_g0.below T7
  replace O_h0 := O_h0.below T7
  have D7 := bnext D6 T7
  clear T7 hb7
  go_wp2_with fail
  refine (heldHouse_any _ _ _ _ (hd) (1) _ _ _ O_g0 hN (by omega) (by omega)).mono ?_
  rintro e w8_ ⟨rfl, hb8⟩
  have T8 := hb8
  have Z8 := hb8.size
  replace yw0 : w1_.heap.size < w8_.heap.size := by omega
  replace kw0_0 := (T8.cell (p := ⟨w1_.heap.size, 0, none⟩) (by simp only []; omega)).trans kw0_0
  replace kw0_1 := (T8.cell (p := ⟨w1_.heap.size, 1, none⟩) (by simp only []; omega)).trans kw0_1
  replace kw0_2 := (T8.cell (p := ⟨w1_.heap.size, 2, none⟩) (by simp only []; omega)).trans kw0_2
  replace kw0_3 := (T8.cell (p := ⟨w1_.heap.size, 3, none⟩) (by simp only []; omega)).trans kw0_3
  replace kw0_4 := (T8.cell (p := ⟨w1_.heap.size, 4, none⟩) (by simp only []; omega)).trans kw0_4
  replace kw0_5 := (T8.cell (p := ⟨w1_.heap.size, 5, none⟩) (by simp only []; omega)).trans kw0_5
  replace yg0 : w2_.heap.size < w8_.heap.size := by omega
  replace kg0_0 := (T8.cell (p := ⟨w2_.heap.size, 0, none⟩) (by simp only []; omega)).trans kg0_0
  replace kg0_1 := (T8.cell (p := ⟨w2_.heap.size, 1, none⟩) (by simp only []; omega)).trans kg0_1
  replace kg0_2 := (T8.cell (p := ⟨w2_.heap.size, 2, none⟩) (by simp only []; omega)).trans kg0_2
  replace kg0_3 := (T8.cell (p := ⟨w2_.heap.size, 3, none⟩) (by simp only []; omega)).trans kg0_3
  replace kg0_4 := (T8.cell (p := ⟨w2_.heap.size, 4, none⟩) (by simp only []; omega)).trans kg0_4
  replace kg0_5 := (T8.cell (p := ⟨w2_.heap.size, 5, none⟩) (by simp only []; omega)).trans kg0_5
  replace yh0 : w6_.heap.size < w8_.heap.size := by omega
  replace kh0_0 := (T8.cell (p := ⟨w6_.heap.size, 0, none⟩) (by simp only []; omega)).trans kh0_0
  replace kh0_1 := (T8.cell (p := ⟨w6_.heap.size, 1, none⟩) (by simp only []; omega)).trans kh0_1
  replace kh0_2 := (T8.cell (p := ⟨w6_.heap.size, 2, none⟩) (by simp only []; omega)).trans kh0_2
  replace kh0_3 := (T8.cell (p := ⟨w6_.heap.size, 3, none⟩) (by simp only []; omega)).trans kh0_3
  replace kh0_4 := (T8.cell (p := ⟨w6_.heap.size, 4, none⟩) (by simp only []; omega)).trans kh0_4
  replace kh0_5 := (T8.cell (p := ⟨w6_.heap.size, 5, none⟩) (by simp only []; omega)).trans kh0_5
  replace O_w0 := O_w0.below T8
  replace O_g0 := O_g0.below T8
  replace O_h0 := O_h0.below T8
  have D8 := bnext D7 T8
  clear T8 hb8
  go_wp2
  go_ret
  exact ⟨rfl, D8⟩
end Go.Proofs.Ytfnhcbbfhoiemaa
