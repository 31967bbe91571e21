/- The walks of AverageOf, in the program and in the reference. -/
import Derived.Test.YtkdpfjaebhgnoaaFrac
import Derived.Test.YtkdpfjaebhgnoaaLotGood
import Derived.Test.YtkdpfjaebhgnoaaSum
import Derived.Deep.RegionWith
namespace Go.Proofs.Ytkdpfjaebhgnoaa
open Go.ChangeShapes Go.WideShapes Go.ChangeAt Go.RowKit

def avgN (nm : Int) (xs : List Int) : Int × Int × Bool := if lotOk nm xs = true then fracN (sumI xs).toNat xs.length else (0, 0, false)

set_option maxRecDepth 100000 in
set_option maxHeartbeats 4000000 in
theorem implAverageOf (nm : Int) (v : Value) (xs : List Int) (w : World) (h : Ints w v xs) : Calls Try.prog 54 #[.agg #[.int .i64 nm, v]] w fun e w' => e = .returned (.tuple #[.agg #[.int .i64 (avgN nm xs).1, .int .i64 (avgN nm xs).2.1], .bool (avgN nm xs).2.2]) ∧ Below w.heap.size w w' := by
  have hv := h
  obtain ⟨hl, ad, cap, rfl, hc⟩ := h
  clear hc
  cases hlot : lotOk nm xs with
  | false =>
    have H := Lib.hid (show avgN nm xs = (0, 0, false) from if_neg (by simp [hlot]))
    go_enter Try.func54, Try.ntmps54
    go_wp2_with fail
    refine (implLotOk_any nm _ xs _ ((hv.alloc _).alloc _)).mono ?_
    rintro e w1 ⟨rfl, hb1⟩
    have e0 : w1.cell? ⟨w.heap.size + 1, 0, none⟩ = some (.int .i64 0) := (hb1.cell (p := ⟨w.heap.size + 1, 0, none⟩) (by simp)).trans (by simp)
    have e1 : w1.cell? ⟨w.heap.size + 1, 1, none⟩ = some (.int .i64 0) := (hb1.cell (p := ⟨w.heap.size + 1, 1, none⟩) (by simp)).trans (by simp)
    have f0 : w1.frozen? ⟨w.heap.size + 1, 0, none⟩ = false := (hb1.frozen (p := ⟨w.heap.size + 1, 0, none⟩) (by simp)).trans (by simp)
    have f1 : w1.frozen? ⟨w.heap.size + 1, 1, none⟩ = false := (hb1.frozen (p := ⟨w.heap.size + 1, 1, none⟩) (by simp)).trans (by simp)
    have D1 := Lib.hid (bnext (balloc (balloc (bref w) _) _) hb1)
    clear hb1
    go_wp2
    refine bodyPost_ret (v := .tuple #[.agg #[.int .i64 0, .int .i64 0], .bool false]) (by simp [results, Try.results54, go_sem, e0, e1]) rfl ?_
    exact ⟨by rw [H.out], bset (bset D1.out (by simp) _) (by simp) _⟩
  | true =>
    have H := Lib.hid (show avgN nm xs = fracN (sumI xs).toNat xs.length from if_pos hlot)
    have hp := lotOk_in hlot
    have hs := sumTo_bd (nth xs) 20000 xs.length (fun k hk => hp.2.2.2.2 k hk) xs.length (Nat.le_refl _)
    obtain ⟨s, hs'⟩ : ∃ s : Nat, (s : Int) = sumI xs := ⟨(sumI xs).toNat, Int.toNat_of_nonneg hs.1⟩
    have HS := Lib.hid (show (sumI xs).toNat = s by omega)
    have hsb : s ≤ 1000000000000 := by have := hs.2; unfold sumI at hs'; omega
    have HX := Lib.hid hp
    have hx1 : 1 ≤ xs.length := hp.2.2.1
    have hx2 : xs.length ≤ 1000000000000 := by omega
    have HE := Lib.hid hs'
    clear hp hs hs'
    go_enter Try.func54, Try.ntmps54
    go_wp2_with fail
    refine (implLotOk_any nm _ xs _ ((hv.alloc _).alloc _)).mono ?_
    rintro e w1 ⟨rfl, hb1⟩
    have b1 : w1.cell? ⟨w.heap.size, 1, none⟩ = some (.slice ad xs.length cap) := (hb1.cell (p := ⟨w.heap.size, 1, none⟩) (by simp; omega)).trans (by simp)
    have e0 : w1.cell? ⟨w.heap.size + 1, 0, none⟩ = some (.int .i64 0) := (hb1.cell (p := ⟨w.heap.size + 1, 0, none⟩) (by simp)).trans (by simp)
    have e1 : w1.cell? ⟨w.heap.size + 1, 1, none⟩ = some (.int .i64 0) := (hb1.cell (p := ⟨w.heap.size + 1, 1, none⟩) (by simp)).trans (by simp)
    have f0 : w1.frozen? ⟨w.heap.size + 1, 0, none⟩ = false := (hb1.frozen (p := ⟨w.heap.size + 1, 0, none⟩) (by simp)).trans (by simp)
    have f1 : w1.frozen? ⟨w.heap.size + 1, 1, none⟩ = false := (hb1.frozen (p := ⟨w.heap.size + 1, 1, none⟩) (by simp)).trans (by simp)
    have D1 := Lib.hid (bnext (balloc (balloc (bref w) _) _) hb1)
    have R1 := Lib.hid (((hv.alloc _).alloc _).below hb1)
    have Z1 : w.heap.size + 1 < w1.heap.size := by have := hb1.size; simp at this; omega
    clear hb1
    have SUM : Hid (Calls Try.prog 71 #[.slice ad xs.length cap] w1.drew fun e w' => e = .returned (.int .i64 (s : Int)) ∧ w1.drew = w') :=
      ((sumOf_any _ xs _ (R1.out.below (bdrew (bref w1))) (fun k hk => by have := HX.out.2.2.2.2 k hk; omega) (by have := HX.out.2.2.2.1; omega)).mono fun e w' hq => ⟨by rw [hq.1, HE.out], hq.2⟩)
    go_wp2_with fail
    go_region_with (first | (go_at_call 71; refine SUM.out.mono ?_; rintro e w' ⟨rfl, rfl⟩) | (go_at_call 81; refine (implMakeFraction s xs.length _ hsb hx1 hx2).mono ?_; rintro e w2 ⟨rfl, hb2⟩; have r0 := (hb2.cell (p := ⟨w.heap.size + 1, 0, none⟩) Z1).trans e0; have r1 := (hb2.cell (p := ⟨w.heap.size + 1, 1, none⟩) Z1).trans e1; have r2 := (hb2.frozen (p := ⟨w.heap.size + 1, 0, none⟩) Z1).trans f0; have r3 := (hb2.frozen (p := ⟨w.heap.size + 1, 1, none⟩) Z1).trans f1; have D2 := Lib.hid (bnext (bdrew D1.out) hb2); clear hb2))
    all_goals
      go_wp2
      refine bodyPost_ret (v := .tuple #[.agg #[.int .i64 (fracN s xs.length).1, .int .i64 (fracN s xs.length).2.1], .bool (fracN s xs.length).2.2]) (by simp [results, Try.results54, go_sem, r0, r1]) rfl ?_
      exact ⟨by rw [H.out, HS.out], bset (bset D2.out (by simp) _) (by simp) _⟩

end Go.Proofs.Ytkdpfjaebhgnoaa
