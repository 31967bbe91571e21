/- The walks of PriceOfAll and LossOf, in the program and in the reference. -/
import Derived.Test.YtkdpfjaebhgnoaaPrice
import Derived.Test.YtkdpfjaebhgnoaaSum
import Derived.BigGuardPart
namespace Go.Proofs.Ytkdpfjaebhgnoaa
open Go.ChangeShapes Go.WideShapes Go.ChangeAt Go.RowKit

def priceAt (xs : List Int) (p : Int) (k : Nat) : Int := priceOf (nth xs k) p
def priceOfAll (xs : List Int) (p : Int) : Int := if xs.length ≤ 20 ∧ allTo (fun k => decide (0 ≤ priceAt xs p k)) xs.length = true then sumTo (priceAt xs p) xs.length else -1
theorem priceAll_long {xs : List Int} {p : Int} (h : 20 < xs.length) : priceOfAll xs p = -1 := if_neg (by omega)
theorem priceAll_bad {xs : List Int} {p : Int} {k : Nat} (hk : k < xs.length) (h : priceAt xs p k < 0) : priceOfAll xs p = -1 := if_neg fun ⟨_, e⟩ => by
  rw [allTo_no (p := fun k => decide (0 ≤ priceAt xs p k)) hk (by simp; omega)] at e; cases e
theorem priceAll_t {xs : List Int} {p : Int} (h : xs.length ≤ 20) (ha : allTo (fun k => decide (0 ≤ priceAt xs p k)) xs.length = true) : priceOfAll xs p = sumTo (priceAt xs p) xs.length := if_pos ⟨h, ha⟩
theorem priceAt_bd (xs : List Int) (p : Int) (k : Nat) : -1 ≤ priceAt xs p k ∧ priceAt xs p k ≤ 10000000 := priceOf_bd _ _
theorem sum_bd {xs : List Int} {p : Int} {k : Nat} (h : allTo (fun k => decide (0 ≤ priceAt xs p k)) k = true) : 0 ≤ sumTo (priceAt xs p) k ∧ sumTo (priceAt xs p) k ≤ 10000000 * k :=
  sumTo_bd _ _ k (fun j hj => ⟨by have := allTo_at h hj; simpa using this, (priceAt_bd xs p j).2⟩) k (Nat.le_refl _)
theorem implPriceOfAll (v : Value) (xs : List Int) (p : Int) (w : World) (h : Ints w v xs) : Calls Try.prog 17 #[v, .int .i64 p] w fun e w' => e = .returned (.int .i64 (priceOfAll xs p)) ∧ Below w.heap.size w w' := by
  obtain ⟨hl, ad, cap, rfl, hc⟩ := h
  by_cases h20 : 20 < xs.length
  · have H := Lib.hid (priceAll_long (p := p) h20)
    clear hc
    go_enter Try.func17, Try.ntmps17
    go_wp2_with fail
    go_ret
    exact ⟨ret_int H.out.symm, bref _⟩
  · go_enter Try.func17, Try.ntmps17
    go_wp2_with fail
    go_loop [5, 14] (fun a i => ∃ k : Nat, k ≤ xs.length ∧ i = .int .i64 k ∧ a = .int .i64 (sumTo (priceAt xs p) k) ∧ Hid (allTo (fun k => decide (0 ≤ priceAt xs p k)) k = true)) (fun _ i => xs.length - (intOf i).toNat)
    case atStart => exact ⟨0, Nat.zero_le _, rfl, rfl, rfl⟩
    case round =>
      obtain ⟨k, hk, rfl, rfl, hx⟩ := hrel
      by_cases hlt : k < xs.length
      · obtain ⟨b, o, rfl, hcell⟩ := hc k hlt
        clear hc
        obtain ⟨p1, p2⟩ := priceAt_bd xs p k
        obtain ⟨s1, s2⟩ := sum_bd hx.out
        by_cases hp : priceAt xs p k < 0
        · have H := Lib.hid (priceAll_bad hlt hp)
          have hq : priceOf (nth xs k) p = -1 := by unfold priceAt at p1 hp; omega
          go_wp2_with (go_at_call 44; refine (implPriceOf _ _ _).mono ?_; rintro e w' ⟨rfl, rfl⟩)
          go_ret
          exact ⟨ret_int H.out.symm, bref _⟩
        · have HX := Lib.hid (allTo_succ (p := fun k => decide (0 ≤ priceAt xs p k)) hx.out (by simp; omega))
          have H := Lib.hid (show sumTo (priceAt xs p) (k + 1) = sumTo (priceAt xs p) k + priceOf (nth xs k) p from rfl)
          unfold priceAt at p1 p2 hp
          have hq : (priceOf (nth xs k) p == -1) = false := by rw [beq_eq_false_iff_ne]; omega
          go_wp2_with (go_at_call 44; refine (implPriceOf _ _ _).mono ?_; rintro e w' ⟨rfl, rfl⟩)
          go_round
          case rel => exact ⟨k + 1, by omega, by go_num, by rw [H.out], HX.out⟩
          case measure => simp [intOf]; omega
      · obtain rfl : k = xs.length := by omega
        have H := Lib.hid (priceAll_t (by omega) hx.out)
        clear hc
        go_wp2
        go_ret
        exact ⟨ret_int H.out.symm, bref _⟩

theorem specPriceOfAll (v : Value) (xs : List Int) (p : Int) (w : World) (h : Ints w v xs) : Calls Try.prog 15 #[v, .int .i64 p] w fun e w' => e = .returned (.int .i64 (priceOfAll xs p)) ∧ Below w.heap.size w w' := by
  obtain ⟨hl, ad, cap, rfl, hc⟩ := h
  by_cases h20 : 20 < xs.length
  · have H := Lib.hid (priceAll_long (p := p) h20)
    go_enter Try.func15, Try.ntmps15
    go_wp2_with fail
    go_loop [5, 6] (fun a i => i = .int .i64 0 ∧ a = .int .i64 0) (fun _ i => xs.length - (intOf i).toNat)
    case atStart => exact ⟨rfl, rfl⟩
    case round =>
      obtain ⟨rfl, rfl⟩ := hrel
      obtain ⟨b, o, rfl, hcell⟩ := hc 0 (by omega)
      rw [Nat.add_zero] at hcell
      clear hc
      obtain ⟨p1, p2⟩ := priceOf_bd (nth xs 0) p
      have hx : 0 < xs.length := by omega
      by_cases hp : priceOf (nth xs 0) p < 0
      all_goals
        go_wp2_with (go_at_call 56; refine (specPriceOf _ _ _).mono ?_; rintro e w' ⟨rfl, rfl⟩)
        go_ret
        exact ⟨ret_int H.out.symm, bref _⟩
  · go_enter Try.func15, Try.ntmps15
    go_wp2_with fail
    go_loop [5, 6] (fun a i => ∃ k : Nat, k ≤ xs.length ∧ i = .int .i64 k ∧ a = .int .i64 (sumTo (priceAt xs p) k) ∧ Hid (allTo (fun k => decide (0 ≤ priceAt xs p k)) k = true)) (fun _ i => xs.length - (intOf i).toNat)
    case atStart => exact ⟨0, Nat.zero_le _, rfl, rfl, rfl⟩
    case round =>
      obtain ⟨k, hk, rfl, rfl, hx⟩ := hrel
      by_cases hlt : k < xs.length
      · obtain ⟨b, o, rfl, hcell⟩ := hc k hlt
        clear hc
        obtain ⟨p1, p2⟩ := priceAt_bd xs p k
        obtain ⟨s1, s2⟩ := sum_bd hx.out
        by_cases hp : priceAt xs p k < 0
        · have H := Lib.hid (priceAll_bad hlt hp)
          have hq : priceOf (nth xs k) p = -1 := by unfold priceAt at p1 hp; omega
          go_wp2_with (go_at_call 56; refine (specPriceOf _ _ _).mono ?_; rintro e w' ⟨rfl, rfl⟩)
          go_ret
          exact ⟨ret_int H.out.symm, bref _⟩
        · have HX := Lib.hid (allTo_succ (p := fun k => decide (0 ≤ priceAt xs p k)) hx.out (by simp; omega))
          have H := Lib.hid (show sumTo (priceAt xs p) (k + 1) = sumTo (priceAt xs p) k + priceOf (nth xs k) p from rfl)
          unfold priceAt at p1 p2 hp
          have hq : (priceOf (nth xs k) p == -1) = false := by rw [beq_eq_false_iff_ne]; omega
          go_wp2_with (go_at_call 56; refine (specPriceOf _ _ _).mono ?_; rintro e w' ⟨rfl, rfl⟩)
          go_round
          case rel => exact ⟨k + 1, by omega, by go_num, by rw [H.out], HX.out⟩
          case measure => simp [intOf]; omega
      · obtain rfl : k = xs.length := by omega
        have H := Lib.hid (priceAll_t (by omega) hx.out)
        clear hc
        go_wp2
        go_ret
        exact ⟨ret_int H.out.symm, bref _⟩

/-- what is lost by rounding -/
def lossOf (xs : List Int) (p : Int) : Int := if priceOfAll xs p < 0 then 0 else if priceOf (sumI xs) p < 0 then 0 else priceOfAll xs p - priceOf (sumI xs) p
theorem priceAll_in {xs : List Int} {p : Int} (h : ¬ priceOfAll xs p < 0) : xs.length ≤ 20 ∧ ∀ k, k < xs.length → 0 ≤ nth xs k ∧ nth xs k ≤ 100000 := by
  unfold priceOfAll at h
  split at h
  · rename_i hh
    refine ⟨hh.1, fun k hk => ?_⟩
    have := allTo_at hh.2 hk
    cases hi : inB (nth xs k) 0 100000 with
    | true => have := inB_le hi; omega
    | false => simp only [decide_eq_true_eq, priceAt, priceOf_g hi] at this; omega
  · omega
theorem priceAll_bd (xs : List Int) (p : Int) : -1 ≤ priceOfAll xs p ∧ priceOfAll xs p ≤ 200000000 := by
  unfold priceOfAll
  split
  · rename_i hh
    have := sum_bd hh.2
    omega
  · omega
theorem implLossOf (v : Value) (xs : List Int) (p : Int) (w : World) (h : Ints w v xs) : Calls Try.prog 34 #[v, .int .i64 p] w fun e w' => e = .returned (.int .i64 (lossOf xs p)) ∧ Below w.heap.size w w' := by
  obtain ⟨a1, a2⟩ := priceAll_bd xs p
  obtain ⟨b1, b2⟩ := priceOf_bd (sumI xs) p
  by_cases hn : priceOfAll xs p < 0
  · have H := Lib.hid (show lossOf xs p = 0 from if_pos hn)
    have hq : (priceOfAll xs p == -1) = true := by rw [beq_iff_eq]; omega
    go_enter Try.func34, Try.ntmps34
    go_wp2_with fail
    refine (implPriceOfAll _ xs p _ h).mono ?_
    rintro e w1 ⟨rfl, hb1⟩
    go_wp2
    go_ret
    exact ⟨ret_int H.out.symm, hb1⟩
  · obtain ⟨hl, hi⟩ := priceAll_in hn
    have HI := Lib.hid hi
    clear hi
    have hq : (priceOfAll xs p == -1) = false := by rw [beq_eq_false_iff_ne]; omega
    by_cases hm : priceOf (sumI xs) p < 0
    · have H := Lib.hid (show lossOf xs p = 0 by unfold lossOf; rw [if_neg hn, if_pos hm])
      have hr : (priceOf (sumI xs) p == -1) = true := by rw [beq_iff_eq]; omega
      go_enter Try.func34, Try.ntmps34
      go_wp2_with fail
      refine (implPriceOfAll _ xs p _ h).mono ?_
      rintro e w1 ⟨rfl, hb1⟩
      go_wp2_with fail
      refine (sumOf_any _ xs _ (h.below hb1) HI.out (by omega)).mono ?_
      rintro e w' ⟨rfl, rfl⟩
      go_wp2_with (go_at_call 44; refine (implPriceOf _ _ _).mono ?_; rintro e w' ⟨rfl, rfl⟩)
      go_ret
      exact ⟨ret_int H.out.symm, hb1⟩
    · have H := Lib.hid (show lossOf xs p = priceOfAll xs p - priceOf (sumI xs) p by unfold lossOf; rw [if_neg hn, if_neg hm])
      have hr : (priceOf (sumI xs) p == -1) = false := by rw [beq_eq_false_iff_ne]; omega
      go_enter Try.func34, Try.ntmps34
      go_wp2_with fail
      refine (implPriceOfAll _ xs p _ h).mono ?_
      rintro e w1 ⟨rfl, hb1⟩
      go_wp2_with fail
      refine (sumOf_any _ xs _ (h.below hb1) HI.out (by omega)).mono ?_
      rintro e w' ⟨rfl, rfl⟩
      go_wp2_with (go_at_call 44; refine (implPriceOf _ _ _).mono ?_; rintro e w' ⟨rfl, rfl⟩)
      go_ret
      exact ⟨ret_int H.out.symm, hb1⟩

theorem specLossOf (v : Value) (xs : List Int) (p : Int) (w : World) (h : Ints w v xs) : Calls Try.prog 33 #[v, .int .i64 p] w fun e w' => e = .returned (.int .i64 (lossOf xs p)) ∧ Below w.heap.size w w' := by
  obtain ⟨a1, a2⟩ := priceAll_bd xs p
  obtain ⟨b1, b2⟩ := priceOf_bd (sumI xs) p
  by_cases hn : priceOfAll xs p < 0
  · have H := Lib.hid (show lossOf xs p = 0 from if_pos hn)
    have hq : (priceOfAll xs p == -1) = true := by rw [beq_iff_eq]; omega
    go_enter Try.func33, Try.ntmps33
    go_wp2_with fail
    refine (specPriceOfAll _ xs p _ h).mono ?_
    rintro e w1 ⟨rfl, hb1⟩
    go_wp2
    go_ret
    exact ⟨ret_int H.out.symm, hb1⟩
  · obtain ⟨hl, hi⟩ := priceAll_in hn
    have HI := Lib.hid hi
    clear hi
    have hq : (priceOfAll xs p == -1) = false := by rw [beq_eq_false_iff_ne]; omega
    by_cases hm : priceOf (sumI xs) p < 0
    · have H := Lib.hid (show lossOf xs p = 0 by unfold lossOf; rw [if_neg hn, if_pos hm])
      have hr : (priceOf (sumI xs) p == -1) = true := by rw [beq_iff_eq]; omega
      go_enter Try.func33, Try.ntmps33
      go_wp2_with fail
      refine (specPriceOfAll _ xs p _ h).mono ?_
      rintro e w1 ⟨rfl, hb1⟩
      go_wp2_with fail
      refine (l34Sum_any _ xs _ (h.below hb1) HI.out (by omega)).mono ?_
      rintro e w' ⟨rfl, rfl⟩
      go_wp2_with (go_at_call 56; refine (specPriceOf _ _ _).mono ?_; rintro e w' ⟨rfl, rfl⟩)
      go_ret
      exact ⟨ret_int H.out.symm, hb1⟩
    · have H := Lib.hid (show lossOf xs p = priceOfAll xs p - priceOf (sumI xs) p by unfold lossOf; rw [if_neg hn, if_neg hm])
      have hr : (priceOf (sumI xs) p == -1) = false := by rw [beq_eq_false_iff_ne]; omega
      go_enter Try.func33, Try.ntmps33
      go_wp2_with fail
      refine (specPriceOfAll _ xs p _ h).mono ?_
      rintro e w1 ⟨rfl, hb1⟩
      go_wp2_with fail
      refine (l34Sum_any _ xs _ (h.below hb1) HI.out (by omega)).mono ?_
      rintro e w' ⟨rfl, rfl⟩
      go_wp2_with (go_at_call 56; refine (specPriceOf _ _ _).mono ?_; rintro e w' ⟨rfl, rfl⟩)
      go_ret
      exact ⟨ret_int H.out.symm, hb1⟩

end Go.Proofs.Ytkdpfjaebhgnoaa
