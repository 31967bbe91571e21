/- The walks of ShortLimit, PriceOf, PriceAfterTare and GramsFor, in the program and in the reference, and of the laws that compare them. -/
import Derived.Test.YtkdpfjaebhgnoaaScalar
import Derived.Test.YtkdpfjaebhgnoaaPriceFn
import Derived.BigGuardPart
namespace Go.Proofs.Ytkdpfjaebhgnoaa
open Go.ChangeShapes Go.WideShapes Go.ChangeAt Go.RowKit

theorem specShortLimit (a : Int) (w : World) : Calls Try.prog 74 #[.int .i64 a] w fun e w' => e = .returned (.int .i64 (shortLimit a)) ∧ w = w' := by
  by_cases h : 10 ≤ a ∧ a ≤ 10000
  · obtain ⟨h1, h2⟩ := h
    have H : Hid (shortLimit a = (if a ≤ 100 then max 1 (a * 9 / 100) else if a ≤ 500 then max 1 (a * 6 / 100) else max 1 (a * 3 / 100))) := if_pos ⟨h1, h2⟩
    have hi := inB_t h1 h2
    by_cases h3 : a ≤ 100
    · go_enter Try.func74, Try.ntmps74
      go_wp2_with (go_at_call 60; refine (l01In_any _ _ _ _).mono ?_; rintro e w' ⟨rfl, rfl⟩)
      all_goals
        go_ret
        refine ⟨ret_int ?_, rfl⟩
        rw [H.out]
        omega
    · by_cases h4 : a ≤ 500
      all_goals
        go_enter Try.func74, Try.ntmps74
        go_wp2_with (go_at_call 60; refine (l01In_any _ _ _ _).mono ?_; rintro e w' ⟨rfl, rfl⟩)
        all_goals
          go_ret
          refine ⟨ret_int ?_, rfl⟩
          rw [H.out]
          omega
  · have H : Hid (shortLimit a = 0) := if_neg h
    have hi := inB_f h
    clear h
    go_enter Try.func74, Try.ntmps74
    go_wp2_with (go_at_call 60; refine (l01In_any _ _ _ _).mono ?_; rintro e w' ⟨rfl, rfl⟩)
    go_ret
    exact ⟨ret_int H.out.symm, rfl⟩

theorem implShortLimit (a : Int) (w : World) : Calls Try.prog 55 #[.int .i64 a] w fun e w' => e = .returned (.int .i64 (shortLimit a)) ∧ w = w' := by
  by_cases h : 10 ≤ a ∧ a ≤ 10000
  · obtain ⟨h1, h2⟩ := h
    have H : Hid (shortLimit a = (if a ≤ 100 then max 1 (a * 9 / 100) else if a ≤ 500 then max 1 (a * 6 / 100) else max 1 (a * 3 / 100))) := if_pos ⟨h1, h2⟩
    have hi := inB_t h1 h2
    by_cases h3 : a ≤ 100
    · go_enter Try.func55, Try.ntmps55
      go_wp2_with (go_at_call 64; refine (in_any _ _ _ _).mono ?_; rintro e w' ⟨rfl, rfl⟩)
      all_goals
        go_ret
        refine ⟨ret_int ?_, rfl⟩
        rw [H.out]
        omega
    · by_cases h4 : a ≤ 500
      all_goals
        go_enter Try.func55, Try.ntmps55
        go_wp2_with (go_at_call 64; refine (in_any _ _ _ _).mono ?_; rintro e w' ⟨rfl, rfl⟩)
        all_goals
          go_ret
          refine ⟨ret_int ?_, rfl⟩
          rw [H.out]
          omega
  · have H : Hid (shortLimit a = 0) := if_neg h
    have hi := inB_f h
    clear h
    go_enter Try.func55, Try.ntmps55
    go_wp2_with (go_at_call 64; refine (in_any _ _ _ _).mono ?_; rintro e w' ⟨rfl, rfl⟩)
    go_ret
    exact ⟨ret_int H.out.symm, rfl⟩

theorem nearest_any (n : Int) (w : World) (h0 : 0 ≤ n) (h1 : n ≤ 10000000000) : Calls Try.prog 78 #[.int .i64 n, .int .i64 1000] w fun e w' => e = .returned (.int .i64 (priceUp n * 1000)) ∧ w = w' := by
  have e : n - n / 1000 * 1000 = n % 1000 := by omega
  go_enter Try.func78, Try.ntmps78
  go_wp2
  all_goals
    go_ret
    refine ⟨ret_int ?_, rfl⟩
    unfold priceUp
    try simp only [bne_iff_ne, ne_eq, bne_eq_false_iff_eq] at *
    split <;> omega

theorem specPriceOf (g p : Int) (w : World) : Calls Try.prog 56 #[.int .i64 g, .int .i64 p] w fun e w' => e = .returned (.int .i64 (priceOf g p)) ∧ w = w' := by
  cases h1 : inB g 0 100000 with
  | false =>
    have H := Lib.hid (priceOf_g (p := p) h1)
    go_enter Try.func56, Try.ntmps56
    go_wp2_with (go_at_call 60; refine (l01In_any _ _ _ _).mono ?_; rintro e w' ⟨rfl, rfl⟩)
    go_ret
    exact ⟨ret_int H.out.symm, rfl⟩
  | true =>
    cases h2 : inB p 0 100000 with
    | false =>
      have H := Lib.hid (priceOf_p (g := g) h2)
      go_enter Try.func56, Try.ntmps56
      go_wp2_with (go_at_call 60; refine (l01In_any _ _ _ _).mono ?_; rintro e w' ⟨rfl, rfl⟩)
      go_ret
      exact ⟨ret_int H.out.symm, rfl⟩
    | true =>
      have H := Lib.hid (priceOf_in h1 h2)
      have hm := prod_bd h1 h2
      obtain ⟨hm1, hm2⟩ := hm
      have hm : 0 ≤ g * p ∧ g * p ≤ 10000000000 := ⟨hm1, hm2⟩
      have hu := priceUp_bd hm1 hm2
      obtain ⟨hu1, hu2⟩ := hu
      go_enter Try.func56, Try.ntmps56
      go_wp2_with (go_at_call 60; refine (l01In_any _ _ _ _).mono ?_; rintro e w' ⟨rfl, rfl⟩)
      all_goals
        go_ret
        refine ⟨ret_int ?_, rfl⟩
        first | exact H.out.symm | (rw [H.out]; unfold priceUp; (try simp only [beq_iff_eq, beq_eq_false_iff_ne, ne_eq] at *); split <;> omega)

theorem implPriceOf (g p : Int) (w : World) : Calls Try.prog 44 #[.int .i64 g, .int .i64 p] w fun e w' => e = .returned (.int .i64 (priceOf g p)) ∧ w = w' := by
  cases h1 : inB g 0 100000 with
  | false =>
    have H := Lib.hid (priceOf_g (p := p) h1)
    go_enter Try.func44, Try.ntmps44
    go_wp2_with (go_at_call 64; refine (in_any _ _ _ _).mono ?_; rintro e w' ⟨rfl, rfl⟩)
    go_ret
    exact ⟨ret_int H.out.symm, rfl⟩
  | true =>
    cases h2 : inB p 0 100000 with
    | false =>
      have H := Lib.hid (priceOf_p (g := g) h2)
      go_enter Try.func44, Try.ntmps44
      go_wp2_with (go_at_call 64; refine (in_any _ _ _ _).mono ?_; rintro e w' ⟨rfl, rfl⟩)
      go_ret
      exact ⟨ret_int H.out.symm, rfl⟩
    | true =>
      have H := Lib.hid (priceOf_in h1 h2)
      have hm := prod_bd h1 h2
      obtain ⟨hm1, hm2⟩ := hm
      have hm : 0 ≤ g * p ∧ g * p ≤ 10000000000 := ⟨hm1, hm2⟩
      have hu := priceUp_bd hm1 hm2
      obtain ⟨hu1, hu2⟩ := hu
      go_enter Try.func44, Try.ntmps44
      go_wp2_with (first | (go_at_call 64; refine (in_any _ _ _ _).mono ?_; rintro e w' ⟨rfl, rfl⟩) | (go_at_call 78; refine (nearest_any _ _ hm.1 hm.2).mono ?_; rintro e w' ⟨rfl, rfl⟩))
      all_goals
        go_ret
        refine ⟨ret_int ?_, rfl⟩
        first | exact H.out.symm | (rw [H.out]; unfold priceUp; (try simp only [beq_iff_eq, beq_eq_false_iff_ne, ne_eq] at *); split <;> omega)

/-- the price of a weight in a vessel -/
def priceAfterTare (g t p : Int) : Int := if t < 0 ∨ g < t then -1 else priceOf (g - t) p
theorem implPriceAfterTare (g t p : Int) (w : World) (hg : (Lit.int .i64 g).wf = true) (ht : (Lit.int .i64 t).wf = true) : Calls Try.prog 45 #[.int .i64 g, .int .i64 t, .int .i64 p] w fun e w' => e = .returned (.int .i64 (priceAfterTare g t p)) ∧ w = w' := by
  obtain ⟨g1, g2⟩ := i64_bd hg
  obtain ⟨t1, t2⟩ := i64_bd ht
  clear hg ht
  by_cases h1 : t < 0
  · have H := Lib.hid (show priceAfterTare g t p = -1 from if_pos (.inl h1))
    by_cases h2 : g < t
    all_goals
      go_enter Try.func45, Try.ntmps45
      go_wp2_with (go_at_call 44; refine (implPriceOf _ _ _).mono ?_; rintro e w' ⟨rfl, rfl⟩)
      go_ret
      exact ⟨ret_int H.out.symm, rfl⟩
  · by_cases h2 : g < t
    · have H := Lib.hid (show priceAfterTare g t p = -1 from if_pos (.inr h2))
      go_enter Try.func45, Try.ntmps45
      go_wp2_with (go_at_call 44; refine (implPriceOf _ _ _).mono ?_; rintro e w' ⟨rfl, rfl⟩)
      go_ret
      exact ⟨ret_int H.out.symm, rfl⟩
    · have H := Lib.hid (show priceAfterTare g t p = priceOf (g - t) p from if_neg (by omega))
      go_enter Try.func45, Try.ntmps45
      go_wp2_with (go_at_call 44; refine (implPriceOf _ _ _).mono ?_; rintro e w' ⟨rfl, rfl⟩)
      go_ret
      exact ⟨ret_int H.out.symm, rfl⟩

theorem implGramsFor (m p : Int) (w : World) : Calls Try.prog 43 #[.int .i64 m, .int .i64 p] w fun e w' => e = .returned (.int .i64 (gramsFor m p)) ∧ w = w' := by
  cases h1 : inB p 1 100000 with
  | false =>
    have H := Lib.hid (show gramsFor m p = -1 from if_neg (by simp [h1]))
    go_enter Try.func43, Try.ntmps43
    go_wp2_with (go_at_call 64; refine (in_any _ _ _ _).mono ?_; rintro e w' ⟨rfl, rfl⟩)
    go_ret
    exact ⟨ret_int H.out.symm, rfl⟩
  | true =>
    cases h2 : inB m 0 1000000 with
    | false =>
      have H := Lib.hid (show gramsFor m p = -1 from if_neg (by simp [h2]))
      go_enter Try.func43, Try.ntmps43
      go_wp2_with (go_at_call 64; refine (in_any _ _ _ _).mono ?_; rintro e w' ⟨rfl, rfl⟩)
      go_ret
      exact ⟨ret_int H.out.symm, rfl⟩
    | true =>
      have H := Lib.hid (show gramsFor m p = halve m p 100000 0 100000 from if_pos ⟨h1, h2⟩)
      go_enter Try.func43, Try.ntmps43
      go_wp2_with (go_at_call 64; refine (in_any _ _ _ _).mono ?_; rintro e w' ⟨rfl, rfl⟩)
      go_loop [5, 6, 7] (fun lo hi _ => ∃ (f : Nat) (l h : Int), 0 ≤ l ∧ l ≤ h ∧ h ≤ 100000 ∧ h - l ≤ f ∧ lo = .int .i64 l ∧ hi = .int .i64 h ∧ gramsFor m p = halve m p f l h) (fun lo hi _ => (intOf hi - intOf lo).toNat)
      case atStart => exact ⟨100000, 0, 100000, by omega, by omega, by omega, by omega, rfl, rfl, H.out⟩
      case round =>
        obtain ⟨f, l, h, hl0, hlh, hh, hf, rfl, rfl, hg⟩ := hrel
        have HG := Lib.hid hg
        clear hg
        by_cases hlt : l < h
        · obtain ⟨f, rfl⟩ : ∃ f', f = f' + 1 := ⟨f - 1, by omega⟩
          by_cases hp : priceOf ((l + h + 1) / 2) p ≤ m
          all_goals
            have HS := Lib.hid hp
            go_wp2_with (go_at_call 44; refine (implPriceOf _ _ _).mono ?_; rintro e w' ⟨rfl, rfl⟩)
            go_round
            case rel =>
              first
              | exact ⟨f, (l + h + 1) / 2, h, by omega, by omega, by omega, by omega, rfl, rfl, HG.out.trans (halve_yes hlt HS.out)⟩
              | exact ⟨f, l, (l + h + 1) / 2 - 1, by omega, by omega, by omega, by omega, rfl, rfl, HG.out.trans (halve_no hlt (Int.not_le.mpr HS.out))⟩
            case measure => simp [intOf]; omega
        · go_wp2
          go_ret
          exact ⟨ret_int (HG.out.trans (halve_end (by omega))).symm, rfl⟩

end Go.Proofs.Ytkdpfjaebhgnoaa
