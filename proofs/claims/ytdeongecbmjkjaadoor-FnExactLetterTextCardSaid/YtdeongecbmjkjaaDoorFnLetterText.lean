/- The law that compares LetterText with the reference, walked. -/
import Derived.Test.YtdeongecbmjkjaaDoorLetText
import Derived.Test.YtdeongecbmjkjaaDoorLetterS
import Derived.Deep.RegionHeld3
namespace Go.Proofs.YtdeongecbmjkjaaDoor
open Go.ChangeShapes Go.WideShapes Go.ChangeAt Go.RowKit
theorem fnExactLetterText_any (nm : Int) (v : Value) (xs : List Int) (w : World) (h : Ints w v xs) (ht : Tab w) :
    Calls Tryd.prog 4 #[.agg #[.int .i64 nm, v]] w fun e w' => e = .returned (.bool true) ∧ Below w.heap.size w w' := by
  have ht0 := ht.below (balloc (bref w) (.cells #[.int .i64 nm, v] 31))
  have hI := h.alloc (.cells #[.int .i64 nm, v] 31)
  by_cases hlt : (1048576 : Int) < xs.length
  · go_enter Tryd.func4, Tryd.ntmps4
    go_wp2_with fail
    refine (szLetter_any _ _ _ _ _ hI (by omega) (by omega)).mono ?_
    rintro e w1 ⟨rfl, hb1⟩
    rw [if_pos (by omega)]
    go_wp2
    go_ret
    exact ⟨rfl, bnext (balloc (bref _) _) hb1⟩
  · go_enter Tryd.func4, Tryd.ntmps4
    go_wp2_with fail
    refine (szLetter_any _ _ _ _ _ hI (by omega) (by omega)).mono ?_
    rintro e w1 ⟨rfl, hb1⟩
    rw [if_neg (by omega)]
    have c1 := below_cell hb1
    go_wp2_with fail
    refine (toLetter_any _ _ _ _ (hI.below hb1) (by omega)).mono ?_
    rintro e w2 ⟨g2, rfl, hO2, hb2⟩
    have D2 := bnext hb1 hb2
    have I2 := Ints.of_own hO2 (by omega)
    have c2 := below_cell D2
    clear c1
    go_wp2_with fail
    refine (specLetterText _ _ xs _ I2 (by omega)).mono ?_
    rintro e w3 ⟨rfl, hb3⟩
    have D3 := bnext D2 hb3
    have c3 := below_cell D3
    clear c2
    go_wp2_with fail
    refine (toLetter_any _ _ _ _ (hI.below D3) (by omega)).mono ?_
    rintro e w4 ⟨g4, rfl, hO4, hb4⟩
    have D4 := bnext D3 hb4
    have I4 := Ints.of_own hO4 (by omega)
    have c4 := below_cell D4
    clear c3
    have z4 := blt _ D4
    go_wp2_with fail
    refine (implLetterText _ _ xs _ (I4.alloc _) ((ht0.below D4).below (balloc (bref _) _)) (by omega)).mono ?_
    rintro e w5 ⟨rfl, hb5⟩
    have c5 := below_cell hb5
    have z5 := blt _ hb5
    have D5 := bnext (balloc D4 _) hb5
    have I5 := (I4.alloc _).below hb5
    have J5 := hI.below D5
    have e0 : w5.cell? ⟨w4.heap.size, 0, none⟩ = some (.int .i64 nm) := by simp [c5]
    have e1 : w5.cell? ⟨w4.heap.size, 1, none⟩ = some (.slice (some ⟨g4, 0, none⟩) xs.length xs.length) := by simp [c5]
    have e2 : w5.cell? ⟨w.heap.size, 0, none⟩ = some (.int .i64 nm) := by rw [D5.cell (p := ⟨w.heap.size, 0, none⟩) (by simp)]; simp
    have e3 : w5.cell? ⟨w.heap.size, 1, none⟩ = some v := by rw [D5.cell (p := ⟨w.heap.size, 1, none⟩) (by simp)]; simp
    have z6 := blt _ D5
    have MK : Hid (∀ w', Below w5.heap.size w5 w' → w'.cell? ⟨w4.heap.size, 0, none⟩ = some (.int .i64 nm) ∧ w'.cell? ⟨w4.heap.size, 1, none⟩ = some (.slice (some ⟨g4, 0, none⟩) xs.length xs.length) ∧
        w'.cell? ⟨w.heap.size, 0, none⟩ = some (.int .i64 nm) ∧ w'.cell? ⟨w.heap.size, 1, none⟩ = some v ∧ Ints w' v xs ∧ Ints w' (.slice (some ⟨g4, 0, none⟩) xs.length xs.length) xs ∧ Below w5.heap.size w5 w') :=
      fun w' hb => ⟨(hb.cell (p := ⟨w4.heap.size, 0, none⟩) z5).trans e0, (hb.cell (p := ⟨w4.heap.size, 1, none⟩) z5).trans e1, (hb.cell (p := ⟨w.heap.size, 0, none⟩) z6).trans e2, (hb.cell (p := ⟨w.heap.size, 1, none⟩) z6).trans e3, J5.below hb, I5.below hb, hb⟩
    clear c4 c5
    go_wp2_with fail
    go_region_held3 (fun w' => w'.cell? ⟨w4.heap.size, 0, none⟩ = some (.int .i64 nm) ∧ w'.cell? ⟨w4.heap.size, 1, none⟩ = some (.slice (some ⟨g4, 0, none⟩) xs.length xs.length) ∧
        w'.cell? ⟨w.heap.size, 0, none⟩ = some (.int .i64 nm) ∧ w'.cell? ⟨w.heap.size, 1, none⟩ = some v ∧ Ints w' v xs ∧ Ints w' (.slice (some ⟨g4, 0, none⟩) xs.length xs.length) xs ∧ Below w5.heap.size w5 w')
      (first | exact MK.out _ (bdrew (bref _)) | (go_split_ands; exact MK.out _ (bnext (by assumption) hb6)) | (go_split_ands; exact MK.out _ (bnext (by assumption) hb7)))
      (first | (go_at_call 16; go_split_ands; refine (toLetter_any _ _ _ _ (by assumption) (by omega)).mono ?_; rintro e w6 ⟨g6, rfl, hO6, hb6⟩)
             | (go_at_call 18; go_split_ands; refine (eqLetter_any _ _ _ _ xs xs _ (by assumption) (Ints.of_own hO6 (by omega))).mono ?_; rintro e w7 ⟨rfl, hb7⟩))
    go_split_ands
    go_wp2
    go_ret
    exact ⟨rfl, bnext (bnext (balloc (bref _) _) D5) (by assumption)⟩
end Go.Proofs.YtdeongecbmjkjaaDoor
