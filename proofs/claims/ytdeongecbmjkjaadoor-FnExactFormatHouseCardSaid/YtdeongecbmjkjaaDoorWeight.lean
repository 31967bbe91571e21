/- The walks of WeightIn, in the program and in the reference. -/
import Derived.Test.YtdeongecbmjkjaaDoorAbove
import Derived.Test.YtdeongecbmjkjaaDoorSum
import Derived.Test.YtdeongecbmjkjaaDoorOnly
namespace Go.Proofs.YtdeongecbmjkjaaDoor
open Go.ChangeShapes Go.WideShapes Go.ChangeAt Go.RowKit

def wAt (xs L : List Int) (i : Nat) : Int := cD xs (nth L i).toNat
def weightIn (n : Nat) (xs : List Int) (k : Int) : Int := sumTo (wAt xs (aboveL n xs k)) (aboveL n xs k).length
theorem w_bd {xs L : List Int} {m : Nat} (h : ∀ i, i < m → -1000000 ≤ wAt xs L i ∧ wAt xs L i ≤ 1000000) : ∀ j, j ≤ m → -1000000 * (j : Int) ≤ sumTo (wAt xs L) j ∧ sumTo (wAt xs L) j ≤ 1000000 * (j : Int)
  | 0, _ => by simp [sumTo]
  | j + 1, hj => by
    have a := w_bd h j (by omega)
    have b := h j (by omega)
    simp only [sumTo]
    omega
theorem above_at {n : Nat} {xs : List Int} {k : Int} {i : Nat} (h : i < (aboveL n xs k).length) : chainOk n xs = true ∧ 0 ≤ nth (aboveL n xs k) i ∧ nth (aboveL n xs k) i < n := aboveL_mem (nth_mem _ _ h)
theorem weightIn_bd (n : Nat) (xs : List Int) (k : Int) : -12000000 ≤ weightIn n xs k ∧ weightIn n xs k ≤ 12000000 := by
  have hl := aboveL_len n xs k
  have := w_bd (xs := xs) (L := aboveL n xs k) (m := (aboveL n xs k).length) (fun i hi => by
    obtain ⟨h1, h2, h3⟩ := above_at hi
    have := chainOk_d h1 (k := (nth (aboveL n xs k) i).toNat) (by omega)
    exact ⟨this.1, this.2.1⟩) _ (Nat.le_refl _)
  unfold weightIn
  omega

set_option maxRecDepth 100000 in
theorem implWeightIn (v : Value) (n : Nat) (xs : List Int) (k : Int) (w : World) (h : Recs 3 w v n xs) : Calls Tryd.prog 36 #[v, .int .i64 k] w fun e w' => e = .returned (.int .i64 (weightIn n xs k)) ∧ Below w.heap.size w w' := by
  have hlen := aboveL_len n xs k
  have HM := Lib.hid (fun (i : Nat) (hi : i < (aboveL n xs k).length) => above_at hi)
  have HX := Lib.hid h.eq
  obtain ⟨adv, capv, rfl⟩ : ∃ ad cap, v = .slice ad n cap := by obtain ⟨_, _, ad, cap, hh, _⟩ := h; exact ⟨ad, cap, hh⟩
  have HR := Lib.hid h
  have HW : Hid (weightIn n xs k = sumTo (wAt xs (aboveL n xs k)) (aboveL n xs k).length) := rfl
  go_enter Tryd.func36, Tryd.ntmps36
  go_wp2_with (first | (go_at_call 72; refine (implAboveIn _ n xs k _ HR.out).mono ?_; rintro e w1 ⟨u, rfl, hown, -, hb1⟩; obtain ⟨adu, capu, rfl⟩ := own_form hown; have HI := Lib.hid (own_ints hown (by omega)); have D := Lib.hid hb1; clear hown hb1))
  generalize aboveL n xs k = L at *
  clear h
  go_loopw [5, 12] (fun s i wr => ∃ j : Nat, j ≤ L.length ∧ i = .int .i64 j ∧ s = .int .i64 (sumTo (wAt xs L) j) ∧ Hid (Below w1.heap.size w1 wr)) (fun _ i _ => L.length - (intOf i).toNat)
  case atStart => exact ⟨0, Nat.zero_le _, rfl, rfl, bref _⟩
  case round =>
    obtain ⟨j, hj, rfl, rfl, HB⟩ := hrel
    by_cases hlt : j < L.length
    · obtain ⟨h1, h2, h3⟩ := HM.out j hlt
      obtain ⟨γ, hγ⟩ := Int.eq_ofNat_of_zero_le h2
      rw [hγ] at h3
      obtain ⟨_, _, _, hv, hc⟩ := HI.out.below HB.out
      cases hv
      obtain ⟨b, o, rfl, e0⟩ := hc j hlt
      rw [hγ] at e0
      obtain ⟨_, _, _, _, hv2, hc2⟩ := HR.out.below (bnext D.out HB.out)
      cases hv2
      obtain ⟨b2, o2, rfl, _, f0, _, _⟩ := at3 HX.out hc2 γ (by omega)
      have hd := chainOk_d h1 (k := γ) (by omega)
      have hs := w_bd (xs := xs) (L := L) (m := L.length) (fun i hi => by
        obtain ⟨h1, h2, h3⟩ := HM.out i hi
        have := chainOk_d h1 (k := (nth L i).toNat) (by omega)
        exact ⟨this.1, this.2.1⟩) j hj
      have hgn : γ < n := by omega
      have HS : Hid (sumTo (wAt xs L) (j + 1) = sumTo (wAt xs L) j + cD xs γ) := Lib.hid (by simp only [sumTo, wAt]; rw [hγ]; rfl)
      obtain ⟨d0, d1, _, _⟩ := hd
      obtain ⟨s0, s1⟩ := hs
      clear hc hc2 hγ h2
      generalize cD xs γ = d at *
      generalize sumTo (wAt xs L) j = s at *
      have hsl : -12000000 ≤ s ∧ s ≤ 12000000 := by omega
      go_wp2
      go_roundw
      case rel => exact ⟨j + 1, by omega, by go_num, by rw [HS.out], HB.out⟩
      case measure => simp [intOf]; omega
    · obtain rfl : j = L.length := by omega
      go_wp2
      go_ret
      exact ⟨by rw [HW.out]; rfl, bnext D.out HB.out⟩

set_option maxRecDepth 100000 in
theorem specWeightIn (v : Value) (n : Nat) (xs : List Int) (k : Int) (w : World) (h : Recs 3 w v n xs) : Calls Tryd.prog 58 #[v, .int .i64 k] w fun e w' => e = .returned (.int .i64 (weightIn n xs k)) ∧ Below w.heap.size w w' := by
  have hlen := aboveL_len n xs k
  have HM := Lib.hid (fun (i : Nat) (hi : i < (aboveL n xs k).length) => above_at hi)
  have HX := Lib.hid h.eq
  obtain ⟨adv, capv, rfl⟩ : ∃ ad cap, v = .slice ad n cap := by obtain ⟨_, _, ad, cap, hh, _⟩ := h; exact ⟨ad, cap, hh⟩
  have HR := Lib.hid h
  have HW : Hid (weightIn n xs k = sumTo (wAt xs (aboveL n xs k)) (aboveL n xs k).length) := rfl
  go_enter Tryd.func58, Tryd.ntmps58
  go_wp2_with (first | (go_at_call 88; refine (specAboveIn _ n xs k _ HR.out).mono ?_; rintro e w1 ⟨u, rfl, hown, hb1⟩; obtain ⟨adu, capu, rfl⟩ := own_form hown; have HI := Lib.hid (own_ints hown (by omega)); have D := Lib.hid hb1; clear hown hb1))
  generalize aboveL n xs k = L at *
  clear h
  go_loopw [5, 7] (fun s i wr => ∃ j : Nat, j ≤ L.length ∧ i = .int .i64 j ∧ s = .int .i64 (sumTo (wAt xs L) j) ∧ Hid (Below w1.heap.size w1 wr)) (fun _ i _ => L.length - (intOf i).toNat)
  case atStart => exact ⟨0, Nat.zero_le _, rfl, rfl, bref _⟩
  case round =>
    obtain ⟨j, hj, rfl, rfl, HB⟩ := hrel
    by_cases hlt : j < L.length
    · obtain ⟨h1, h2, h3⟩ := HM.out j hlt
      obtain ⟨γ, hγ⟩ := Int.eq_ofNat_of_zero_le h2
      rw [hγ] at h3
      obtain ⟨_, _, _, hv, hc⟩ := HI.out.below HB.out
      cases hv
      obtain ⟨b, o, rfl, e0⟩ := hc j hlt
      rw [hγ] at e0
      obtain ⟨_, _, _, _, hv2, hc2⟩ := HR.out.below (bnext D.out HB.out)
      cases hv2
      obtain ⟨b2, o2, rfl, _, f0, _, _⟩ := at3 HX.out hc2 γ (by omega)
      have hd := chainOk_d h1 (k := γ) (by omega)
      have hs := w_bd (xs := xs) (L := L) (m := L.length) (fun i hi => by
        obtain ⟨h1, h2, h3⟩ := HM.out i hi
        have := chainOk_d h1 (k := (nth L i).toNat) (by omega)
        exact ⟨this.1, this.2.1⟩) j hj
      have hgn : γ < n := by omega
      have HS : Hid (sumTo (wAt xs L) (j + 1) = sumTo (wAt xs L) j + cD xs γ) := Lib.hid (by simp only [sumTo, wAt]; rw [hγ]; rfl)
      obtain ⟨d0, d1, _, _⟩ := hd
      obtain ⟨s0, s1⟩ := hs
      clear hc hc2 hγ h2
      generalize cD xs γ = d at *
      generalize sumTo (wAt xs L) j = s at *
      have hsl : -12000000 ≤ s ∧ s ≤ 12000000 := by omega
      go_wp2
      go_roundw
      case rel => exact ⟨j + 1, by omega, by go_num, by rw [HS.out], HB.out⟩
      case measure => simp [intOf]; omega
    · obtain rfl : j = L.length := by omega
      go_wp2
      go_ret
      exact ⟨by rw [HW.out]; rfl, bnext D.out HB.out⟩
end Go.Proofs.YtdeongecbmjkjaaDoor
