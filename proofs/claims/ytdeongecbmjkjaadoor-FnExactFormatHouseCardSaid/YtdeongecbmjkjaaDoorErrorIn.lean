/- The walks of ErrorIn, in the program and in the reference. -/
import Derived.Test.YtdeongecbmjkjaaDoorWeight
namespace Go.Proofs.YtdeongecbmjkjaaDoor
open Go.ChangeShapes Go.WideShapes Go.ChangeAt Go.RowKit

def eAt (xs L : List Int) (i : Nat) : Int := cE xs (nth L i).toNat
def errorIn (n : Nat) (xs : List Int) (k : Int) : Int := if aboveL n xs k = [] then -1 else sumTo (eAt xs (aboveL n xs k)) (aboveL n xs k).length
theorem errorIn_no {n : Nat} {xs : List Int} {k : Int} (h : aboveL n xs k = []) : errorIn n xs k = -1 := if_pos h
theorem errorIn_t {n : Nat} {xs : List Int} {k : Int} (h : ¬ aboveL n xs k = []) : errorIn n xs k = sumTo (eAt xs (aboveL n xs k)) (aboveL n xs k).length := if_neg h
theorem e_bd {xs L : List Int} {m : Nat} (h : ∀ i, i < m → 0 ≤ eAt xs L i ∧ eAt xs L i ≤ 1000) : ∀ j, j ≤ m → 0 ≤ sumTo (eAt xs L) j ∧ sumTo (eAt xs L) j ≤ 1000 * (j : Int)
  | 0, _ => by simp [sumTo]
  | j + 1, hj => by
    have a := e_bd h j (by omega)
    have b := h j (by omega)
    simp only [sumTo]
    omega
theorem errorIn_bd (n : Nat) (xs : List Int) (k : Int) : -1 ≤ errorIn n xs k ∧ errorIn n xs k ≤ 12000 := by
  have hl := aboveL_len n xs k
  have := e_bd (xs := xs) (L := aboveL n xs k) (m := (aboveL n xs k).length) (fun i hi => by
    obtain ⟨h1, h2, h3⟩ := above_at hi
    have := chainOk_d h1 (k := (nth (aboveL n xs k) i).toNat) (by omega)
    exact ⟨this.2.2.1, this.2.2.2⟩) _ (Nat.le_refl _)
  unfold errorIn
  split <;> omega

set_option maxRecDepth 100000 in
theorem implErrorIn (v : Value) (n : Nat) (xs : List Int) (k : Int) (w : World) (h : Recs 3 w v n xs) : Calls Tryd.prog 37 #[v, .int .i64 k] w fun e w' => e = .returned (.int .i64 (errorIn n xs k)) ∧ Below w.heap.size w w' := by
  have hlen := aboveL_len n xs k
  have HM := Lib.hid (fun (i : Nat) (hi : i < (aboveL n xs k).length) => above_at hi)
  have HX := Lib.hid h.eq
  obtain ⟨adv, capv, rfl⟩ : ∃ ad cap, v = .slice ad n cap := by obtain ⟨_, _, ad, cap, hh, _⟩ := h; exact ⟨ad, cap, hh⟩
  have HR := Lib.hid h
  clear h
  cases hok : (chainOk n xs && inB k 0 ((n : Int) - 1)) with
  | false =>
    have hnil : aboveL n xs k = [] := if_neg (fun q => by rw [q.1, q.2] at hok; cases hok)
    have HE := Lib.hid (errorIn_no hnil)
    clear hnil
    go_enter Tryd.func37, Tryd.ntmps37
    go_wp2_with (first | (go_at_call 73; refine (isCopy_any _ n xs k _ HR.out).mono ?_; rw [hok]; rintro e w1 ⟨rfl, hb1⟩))
    go_ret
    exact ⟨by rw [HE.out]; rfl, hb1⟩
  | true =>
    have hok2 := hok
    simp only [Bool.and_eq_true] at hok2
    obtain ⟨hch, hin⟩ := hok2
    obtain ⟨k0, k1⟩ := inB_le hin
    have hup : aboveL n xs k = upL xs k := aboveL_t hch hin
    have hne : ¬ aboveL n xs k = [] := by rw [hup]; show ¬ upFrom xs (11 + 1) k = []; rw [upFrom_yes k0]; simp
    have HE := Lib.hid (errorIn_t hne)
    have HUP := Lib.hid hup
    clear hup hne
    go_enter Tryd.func37, Tryd.ntmps37
    go_wp2_with (first | (go_at_call 73; refine (isCopy_any _ n xs k _ HR.out).mono ?_; rw [hok]; rintro e w0 ⟨rfl, hb0⟩; have HR := Lib.hid (HR.out.below hb0)) | (go_at_call 74; refine (above_any _ n xs k _ HR.out hch k0 (by omega)).mono ?_; rw [← HUP.out]; rintro e w1 ⟨u, rfl, hown, -, hb1⟩; obtain ⟨adu, capu, rfl⟩ := own_form hown; have HI := Lib.hid (own_ints hown (by omega)); have D := Lib.hid (bnext hb0 hb1); have HR := Lib.hid (HR.out.below hb1); clear hown hb1 hb0))
    clear hok hch hin
    generalize aboveL n xs k = L at *
    go_loopw [5, 16] (fun s i wr => ∃ j : Nat, j ≤ L.length ∧ i = .int .i64 j ∧ s = .int .i64 (sumTo (eAt xs L) j) ∧ Hid (Below w1.heap.size w1 wr)) (fun _ i _ => L.length - (intOf i).toNat)
    case atStart => exact ⟨0, Nat.zero_le _, rfl, rfl, bref _⟩
    case round =>
      obtain ⟨j, hj, rfl, rfl, HB⟩ := hrel
      by_cases hlt : j < L.length
      · obtain ⟨h1, h2, h3⟩ := HM.out j hlt
        obtain ⟨γ, hγ⟩ := Int.eq_ofNat_of_zero_le h2
        rw [hγ] at h3
        obtain ⟨_, _, _, hv, hc⟩ := HI.out.below HB.out
        cases hv
        obtain ⟨b, o, rfl, e0⟩ := hc j hlt
        rw [hγ] at e0
        obtain ⟨_, _, _, _, hv2, hc2⟩ := HR.out.below HB.out
        cases hv2
        obtain ⟨b2, o2, rfl, _, _, f0, _⟩ := at3 HX.out hc2 γ (by omega)
        have hd := chainOk_d h1 (k := γ) (by omega)
        have hs := e_bd (xs := xs) (L := L) (m := L.length) (fun i hi => by
          obtain ⟨h1, h2, h3⟩ := HM.out i hi
          have := chainOk_d h1 (k := (nth L i).toNat) (by omega)
          exact ⟨this.2.2.1, this.2.2.2⟩) j hj
        have hgn : γ < n := by omega
        have HS : Hid (sumTo (eAt xs L) (j + 1) = sumTo (eAt xs L) j + cE xs γ) := Lib.hid (by simp only [sumTo, eAt]; rw [hγ]; rfl)
        obtain ⟨_, _, d0, d1⟩ := hd
        obtain ⟨s0, s1⟩ := hs
        clear hc hc2 hγ h2
        generalize cE xs γ = d at *
        generalize sumTo (eAt xs L) j = s at *
        have hsl : 0 ≤ s ∧ s ≤ 12000 := by omega
        go_wp2
        go_roundw
        case rel => exact ⟨j + 1, by omega, by go_num, by rw [HS.out], HB.out⟩
        case measure => simp [intOf]; omega
      · obtain rfl : j = L.length := by omega
        go_wp2
        go_ret
        exact ⟨by rw [HE.out]; rfl, bnext D.out HB.out⟩

set_option maxRecDepth 100000 in
theorem specErrorIn (v : Value) (n : Nat) (xs : List Int) (k : Int) (w : World) (h : Recs 3 w v n xs) : Calls Tryd.prog 59 #[v, .int .i64 k] w fun e w' => e = .returned (.int .i64 (errorIn n xs k)) ∧ Below w.heap.size w w' := by
  have hlen := aboveL_len n xs k
  have HM := Lib.hid (fun (i : Nat) (hi : i < (aboveL n xs k).length) => above_at hi)
  have HX := Lib.hid h.eq
  obtain ⟨adv, capv, rfl⟩ : ∃ ad cap, v = .slice ad n cap := by obtain ⟨_, _, ad, cap, hh, _⟩ := h; exact ⟨ad, cap, hh⟩
  have HR := Lib.hid h
  clear h
  go_enter Tryd.func59, Tryd.ntmps59
  go_wp2_with (first | (go_at_call 88; refine (specAboveIn _ n xs k _ HR.out).mono ?_; rintro e w1 ⟨u, rfl, hown, hb1⟩; obtain ⟨adu, capu, rfl⟩ := own_form hown; have HI := Lib.hid (own_ints hown (by omega)); have D := Lib.hid hb1; have HR := Lib.hid (HR.out.below hb1); clear hown hb1))
  have HN : Hid (aboveL n xs k = [] → errorIn n xs k = -1) := errorIn_no
  have HE : Hid (¬ aboveL n xs k = [] → errorIn n xs k = sumTo (eAt xs (aboveL n xs k)) (aboveL n xs k).length) := errorIn_t
  generalize aboveL n xs k = L at *
  go_loopw [6, 7] (fun s i wr => ∃ j : Nat, j ≤ L.length ∧ i = .int .i64 j ∧ s = .int .i64 (sumTo (eAt xs L) j) ∧ Hid (Below w1.heap.size w1 wr)) (fun _ i _ => L.length - (intOf i).toNat)
  case atStart => exact ⟨0, Nat.zero_le _, rfl, rfl, bref _⟩
  case round =>
    obtain ⟨j, hj, rfl, rfl, HB⟩ := hrel
    by_cases hlt : j < L.length
    · obtain ⟨h1, h2, h3⟩ := HM.out j hlt
      obtain ⟨γ, hγ⟩ := Int.eq_ofNat_of_zero_le h2
      rw [hγ] at h3
      obtain ⟨_, _, _, hv, hc⟩ := HI.out.below HB.out
      cases hv
      obtain ⟨b, o, rfl, e0⟩ := hc j hlt
      rw [hγ] at e0
      obtain ⟨_, _, _, _, hv2, hc2⟩ := HR.out.below HB.out
      cases hv2
      obtain ⟨b2, o2, rfl, _, _, f0, _⟩ := at3 HX.out hc2 γ (by omega)
      have hd := chainOk_d h1 (k := γ) (by omega)
      have hs := e_bd (xs := xs) (L := L) (m := L.length) (fun i hi => by
        obtain ⟨h1, h2, h3⟩ := HM.out i hi
        have := chainOk_d h1 (k := (nth L i).toNat) (by omega)
        exact ⟨this.2.2.1, this.2.2.2⟩) j hj
      have hgn : γ < n := by omega
      have HS : Hid (sumTo (eAt xs L) (j + 1) = sumTo (eAt xs L) j + cE xs γ) := Lib.hid (by simp only [sumTo, eAt]; rw [hγ]; rfl)
      obtain ⟨_, _, d0, d1⟩ := hd
      obtain ⟨s0, s1⟩ := hs
      clear hc hc2 hγ h2
      generalize cE xs γ = d at *
      generalize sumTo (eAt xs L) j = s at *
      have hsl : 0 ≤ s ∧ s ≤ 12000 := by omega
      go_wp2
      go_roundw
      case rel => exact ⟨j + 1, by omega, by go_num, by rw [HS.out], HB.out⟩
      case measure => simp [intOf]; omega
    · obtain rfl : j = L.length := by omega
      by_cases hl0 : L.length = 0
      · obtain rfl : L = [] := List.eq_nil_of_length_eq_zero hl0
        have HE2 := Lib.hid (HN.out rfl)
        clear hl0
        go_wp2
        go_ret
        exact ⟨by rw [HE2.out]; rfl, bnext D.out HB.out⟩
      · have hq : ((L.length : Int) == 0) = false := by rw [beq_eq_false_iff_ne]; omega
        have HE2 := Lib.hid (HE.out (fun z => hl0 (by rw [z]; rfl)))
        go_wp2
        go_ret
        exact ⟨by rw [HE2.out]; rfl, bnext D.out HB.out⟩
end Go.Proofs.YtdeongecbmjkjaaDoor
