/- The walks of MostInTime, in the program and in the reference. -/
import Derived.Test.YtdchgbhhlocmdaaInTime
import Derived.Test.YtdchgbhhlocmdaaMostFn
namespace Go.Proofs.Ytdchgbhhlocmdaa
open Go.ChangeShapes Go.WideShapes Go.ChangeAt Go.RowKit

set_option maxRecDepth 100000 in
set_option maxHeartbeats 2000000 in
theorem implMostInTime (v : Value) (n : Nat) (xs : List Int) (w : World) (h : Recs 2 w v n xs) : Calls Try.prog 24 #[v] w fun e w' => e = .returned (.int .i64 (mostIn n xs)) ∧ Below w.heap.size w w' := by
  obtain ⟨i0, hi0, hz0, hz1, hz2⟩ := info_parts infoInt'
  obtain ⟨adv, capv, rfl⟩ : ∃ ad cap, v = .slice ad n cap := by obtain ⟨_, _, ad, cap, hh, _⟩ := h; exact ⟨ad, cap, hh⟩
  cases h1 : visitsOk n xs with
  | false =>
    have HX := Lib.hid (mostIn_f h1)
    go_enter Try.func24, Try.ntmps24
    go_wp2_with (first | (go_at_call 30; refine (implVisitsOk _ n xs _ h).mono ?_; rw [h1]; rintro e w1 ⟨rfl, hb1⟩))
    go_ret
    exact ⟨by rw [HX.out]; rfl, hb1⟩
  | true =>
    by_cases h8 : n ≤ 8
    · have HX := Lib.hid (mostIn_t h1 h8)
      have hdl := dueP_len n xs
      have HDI := Lib.hid (dueP_in n xs)
      have HDO := Lib.hid (dueOrder_t h1)
      have h9 : (n : Int) ≤ 8 := by omega
      obtain ⟨N, HN, hN8, hp⟩ : ∃ N : Nat, Hid (N = 2 ^ n) ∧ N ≤ 256 ∧ (2 : Int) ^ n = (N : Int) := by
        have : 2 ^ n ≤ 2 ^ 8 := Nat.pow_le_pow_right (by omega) h8
        exact ⟨2 ^ n, rfl, by omega, by simp⟩
      go_enter Try.func24, Try.ntmps24
      go_wp2_with (first | (go_at_call 30; refine (implVisitsOk _ n xs _ h).mono ?_; rw [h1]; rintro e w1 ⟨rfl, hb1⟩; have hr1 := h.below hb1) | (go_at_call 15; refine (implDueOrder _ n xs _ hr1).mono ?_; rintro e w2 ⟨u, rfl, hown, hb2⟩; rw [HDO.out, hdl] at hown; have hr2 := Lib.hid (hr1.below hb2); obtain ⟨adu, capu, rfl⟩ := own_form hown; have hi2 := Lib.hid (show Ints w2 (.slice adu n capu) (dueP n xs) from Ints.of_own (by rw [hdl]; exact hown) (by omega)); have HD := Lib.hid (bnext hb1 hb2); clear hown hb1 hb2 hr1))
      go_loopw [3, 22] (fun b s wr => ∃ k : Nat, k ≤ N ∧ s = .int .i64 k ∧ b = .int .i64 (mostTo n xs k) ∧ Hid (Below w2.heap.size w2 wr)) (fun _ s _ => N - (intOf s).toNat)
      case atStart => exact ⟨0, Nat.zero_le _, rfl, rfl, bref _⟩
      case round =>
        obtain ⟨s, hs, rfl, rfl, HB⟩ := hrel
        have hbd := mostTo_bd n xs s
        by_cases hlt : s < N
        · go_wp2
          go_loopw [6, 27] (fun u i wr => ∃ k : Nat, k ≤ n ∧ i = .int .i64 k ∧ wr.ownsRow w2.heap.size 3 1 u (fltB s (dueP n xs) k).length ((fltB s (dueP n xs) k).map (Value.int .i64)) ∧ Hid (Below w2.heap.size w2 wr)) (fun _ i _ => n - (intOf i).toNat)
          case atStart => exact ⟨0, Nat.zero_le _, rfl, World.ownsRow_nil _ _ _ _, HB⟩
          case round =>
            obtain ⟨k, hk, rfl, hown, HB2⟩ := hrel
            have hfl := fltB_len s (dueP n xs) k
            have hsz := HB2.out.size
            by_cases hlt2 : k < n
            · obtain ⟨_, ad2, cap2, hh, hc⟩ := hi2.out.below HB2.out
              rw [hdl] at hh
              cases hh
              obtain ⟨b, o, rfl, e0⟩ := hc k (by omega)
              clear hc
              obtain ⟨q1, q2⟩ := HDI.out k (by omega)
              cases hbit : bitB s (nth (dueP n xs) k) with
              | true =>
                have HL := Lib.hid (fltB_yes (by omega) hbit)
                have hb' : (bits BinOp.and IntKind.i64 ((s : Int) / 2 ^ (nth (dueP n xs) k).toNat) 1 == 1) = true := hbit
                go_wp2_with (first | (at_builtin; refine wpList_append_own _ rfl _ _ 24 rfl w2.heap.size 3 i0 (.int .i64 0) 1 8 Try.underlying24 hi0 hz0 hz1 hz2 rfl (by decide) _ _ _ rfl (hown.alloc _) ⟨wr.heap.size, 0, none⟩ 1 1 [.int .i64 (nth (dueP n xs) k)] rfl rfl (cell_one_new _ _ _) (ints_oneCell .i64 [nth (dueP n xs) k]) (by unfold maxLen; omega) (by omega) (by simp; omega) ?_; intro v' w3 hown' hgrow hnil; have HO := Lib.hid hown'; have HW := Lib.hid ((HB2.out.alloc (by have := HB2.out.size; omega) _).grown hgrow (by have := HB2.out.size; simp; omega) (fun b e => (hown.lt b e).1)); clear hown' hgrow hnil))
                go_roundw
                case rel => exact ⟨k + 1, by omega, by go_num, by rw [HL.out]; simpa using HO.out, HW⟩
                case measure => simp [intOf]; omega
              | false =>
                have HL := Lib.hid (fltB_no (by omega) hbit)
                have hb' : (bits BinOp.and IntKind.i64 ((s : Int) / 2 ^ (nth (dueP n xs) k).toNat) 1 == 1) = false := hbit
                go_wp2
                go_roundw
                case rel => exact ⟨k + 1, by omega, by go_num, by rw [HL.out]; exact hown, HB2⟩
                case measure => simp [intOf]; omega
            · obtain rfl : k = n := by omega
              rw [fltB_all] at hown hfl
              have hi3 := Ints.of_own hown (by omega)
              obtain ⟨ad3, cap3, rfl⟩ := own_form hown
              have HIN := Lib.hid (someL_in k xs s)
              have hr3 := hr2.out.below HB2.out
              clear hown
              by_cases hd0 : delayL xs (someL k xs s) = 0
              · have HS := Lib.hid (show mostTo k xs (s + 1) = max (mostTo k xs s) ((someL k xs s).length : Int) from by simp only [mostTo]; rw [if_pos hd0])
                have hd1 : (delayL xs (someL k xs s) == 0) = true := by simp [hd0]
                go_wp2_with (first | (go_at_call 67; refine (delay_any _ k xs _ (someL k xs s) _ hr3 hi3 h1 HIN.out (by omega)).mono ?_; rintro e w3 ⟨rfl, rfl⟩))
                go_roundw
                case rel => exact ⟨s + 1, by omega, by go_num, by rw [HS.out], HB2⟩
                case measure => simp [intOf]; omega
              · have HS := Lib.hid (show mostTo k xs (s + 1) = mostTo k xs s from by simp only [mostTo]; rw [if_neg hd0])
                have hd1 : (delayL xs (someL k xs s) == 0) = false := by simp [hd0]
                go_wp2_with (first | (go_at_call 67; refine (delay_any _ k xs _ (someL k xs s) _ hr3 hi3 h1 HIN.out (by omega)).mono ?_; rintro e w3 ⟨rfl, rfl⟩))
                go_roundw
                case rel => exact ⟨s + 1, by omega, by go_num, by rw [HS.out], HB2⟩
                case measure => simp [intOf]; omega
        · obtain rfl : s = N := by omega
          go_wp2
          go_ret
          exact ⟨by rw [HX.out, ← HN.out]; rfl, bnext HD.out HB.out⟩
    · have HX := Lib.hid (mostIn_g (xs := xs) h8)
      have h9 : (8 : Int) < n := by omega
      go_enter Try.func24, Try.ntmps24
      go_wp2_with (first | (go_at_call 30; refine (implVisitsOk _ n xs _ h).mono ?_; rw [h1]; rintro e w1 ⟨rfl, hb1⟩))
      go_ret
      exact ⟨by rw [HX.out]; rfl, hb1⟩

theorem cell_two_new (w : World) (b : Nat) (x y : Value) (t : TypeId) (hb : b = w.heap.size) : ∀ j u, [x, y][j]? = some u → (w.alloc (.cells #[x, y] t)).cell? ((⟨b, 0, none⟩ : Addr).add j) = some u := by
  subst hb
  intro j u hj
  rw [Addr.add_lit, Nat.zero_add]
  rw [World.cell?_alloc_new]
  simpa using hj
set_option maxRecDepth 100000 in
set_option maxHeartbeats 2000000 in
theorem specMostInTime (v : Value) (n : Nat) (xs : List Int) (w : World) (h : Recs 2 w v n xs) : Calls Try.prog 23 #[v] w fun e w' => e = .returned (.int .i64 (mostIn n xs)) ∧ Below w.heap.size w w' := by
  obtain ⟨i0, hi0, hz0, hz1, hz2⟩ := info_parts infoVisit'
  obtain ⟨adv, capv, rfl⟩ : ∃ ad cap, v = .slice ad n cap := by obtain ⟨_, _, ad, cap, hh, _⟩ := h; exact ⟨ad, cap, hh⟩
  cases h1 : visitsOk n xs with
  | false =>
    have HX := Lib.hid (mostIn_f h1)
    go_enter Try.func23, Try.ntmps23
    go_wp2_with (first | (go_at_call 61; refine (specVisitsOk _ n xs _ h).mono ?_; rw [h1]; rintro e w1 ⟨rfl, hb1⟩))
    go_ret
    exact ⟨by rw [HX.out]; rfl, hb1⟩
  | true =>
    by_cases h8 : n ≤ 8
    · have HX := Lib.hid (mostIn_t h1 h8)
      have h9 : (n : Int) ≤ 8 := by omega
      obtain ⟨N, HN, hN8, hp⟩ : ∃ N : Nat, Hid (N = 2 ^ n) ∧ N ≤ 256 ∧ (2 : Int) ^ n = (N : Int) := by
        have : 2 ^ n ≤ 2 ^ 8 := Nat.pow_le_pow_right (by omega) h8
        exact ⟨2 ^ n, rfl, by omega, by simp⟩
      go_enter Try.func23, Try.ntmps23
      go_wp2_with (first | (go_at_call 61; refine (specVisitsOk _ n xs _ h).mono ?_; rw [h1]; rintro e w1 ⟨rfl, hb1⟩; have hr1 := Lib.hid (h.below hb1); have HD := Lib.hid hb1; clear hb1))
      go_loopw [3, 4] (fun b s wr => ∃ k : Nat, k ≤ N ∧ s = .int .i64 k ∧ b = .int .i64 (mostTo n xs k) ∧ Hid (Below w1.heap.size w1 wr)) (fun _ s _ => N - (intOf s).toNat)
      case atStart => exact ⟨0, Nat.zero_le _, rfl, rfl, bref _⟩
      case round =>
        obtain ⟨s, hs, rfl, rfl, HB⟩ := hrel
        have hbd := mostTo_bd n xs s
        by_cases hlt : s < N
        · have R0 := Lib.hid (own_base (World.ownsRow_lit (e := 41) (size := 2) wr #[] 0 (Nat.le_refl _) (by decide) rfl) HB.out.size)
          go_wp2
          go_loopw [5, 6] (fun u i wr => ∃ k : Nat, k ≤ n ∧ i = .int .i64 k ∧ wr.ownsRow w1.heap.size 41 2 u (subI k s).length ((subV xs (subI k s)).map (Value.int .i64)) ∧ Hid (Below w1.heap.size w1 wr)) (fun _ i _ => n - (intOf i).toNat)
          case atStart => exact ⟨0, Nat.zero_le _, rfl, R0.out, balloc HB.out _⟩
          case round =>
            obtain ⟨k, hk, rfl, hown, HB2⟩ := hrel
            have hfl := subI_len k s
            have hsz := HB2.out.size
            by_cases hlt2 : k < n
            · obtain ⟨b, o, rfl, e0, e1⟩ := due_at (hr1.out.below HB2.out) hlt2
              cases hbit : bitB s (k : Int) with
              | true =>
                have HL := Lib.hid (subI_yes hbit)
                have hb' : (bits BinOp.and IntKind.i64 ((s : Int) / 2 ^ k) 1 == 1) = true := by simpa [bitB] using hbit
                clear hbit
                go_wp2_with (first | (at_builtin; refine wpList_append_own_at _ rfl _ _ 26 rfl w1.heap.size 41 i0 (.agg #[.int .i64 0, .int .i64 0]) 2 16 Try.underlying26 hi0 hz0 hz1 hz2 rfl (by decide) _ _ _ rfl (own_below hown (balloc (bref wr) _)) ⟨wr.heap.size, 0, none⟩ 1 1 [.int .i64 (dueV xs k), .int .i64 (dayV xs k)] rfl rfl (cell_two_new _ _ _ _ _ rfl) (ints_oneCell .i64 [dueV xs k, dayV xs k]) (by unfold maxLen; omega) (by omega) (by simp; omega) ?_; intro v' w3 hown' hgrow hnil hat; have HO := Lib.hid hown'; have HW := Lib.hid ((HB2.out.alloc (by omega) _).grown hgrow (by simp; omega) (fun b e => (hown.lt b e).1)); clear hown' hgrow hnil hat))
                go_roundw
                case rel =>
                  refine ⟨k + 1, by omega, by go_num, ?_, HW⟩
                  rw [HL.out, subV_app]
                  simpa using HO.out
                case measure => simp [intOf]; omega
              | false =>
                have HL := Lib.hid (subI_no hbit)
                have hb' : (bits BinOp.and IntKind.i64 ((s : Int) / 2 ^ k) 1 == 1) = false := by simpa [bitB] using hbit
                clear hbit
                go_wp2
                go_roundw
                case rel => exact ⟨k + 1, by omega, by go_num, by rw [HL.out]; exact hown, HB2⟩
                case measure => simp [intOf]; omega
            · obtain rfl : k = n := by omega
              have hrs := Recs.of_own hown (by omega)
              obtain ⟨ad3, cap3, rfl⟩ := own_form hown
              have HS := Lib.hid (mostTo_step (n := k) (xs := xs) s)
              clear hown
              by_cases hgt : mostTo k xs s < ((subI k s).length : Int)
              · by_cases hd0 : delayL xs (someL k xs s) = 0
                · have HM := Lib.hid (show mostTo k xs (s + 1) = ((subI k s).length : Int) from by rw [HS.out, if_pos hd0]; omega)
                  have hd1 : decide (delayL xs (someL k xs s) = 0) = true := by simp [hd0]
                  go_wp2_with (first | (go_at_call 21; refine (specCanBeInTime _ _ _ _ hrs).mono ?_; rw [sub_canBe h1]; rintro e w4 ⟨rfl, hb4⟩))
                  go_roundw
                  case rel => exact ⟨s + 1, by omega, by go_num, by rw [HM.out], bnext HB2.out hb4⟩
                  case measure => simp [intOf]; omega
                · have HM := Lib.hid (show mostTo k xs (s + 1) = mostTo k xs s from by rw [HS.out, if_neg hd0])
                  have hd1 : decide (delayL xs (someL k xs s) = 0) = false := by simp [hd0]
                  go_wp2_with (first | (go_at_call 21; refine (specCanBeInTime _ _ _ _ hrs).mono ?_; rw [sub_canBe h1]; rintro e w4 ⟨rfl, hb4⟩))
                  go_roundw
                  case rel => exact ⟨s + 1, by omega, by go_num, by rw [HM.out], bnext HB2.out hb4⟩
                  case measure => simp [intOf]; omega
              · have HM := Lib.hid (show mostTo k xs (s + 1) = mostTo k xs s from by rw [HS.out]; split <;> omega)
                go_wp2
                go_roundw
                case rel => exact ⟨s + 1, by omega, by go_num, by rw [HM.out], HB2⟩
                case measure => simp [intOf]; omega
        · obtain rfl : s = N := by omega
          go_wp2
          go_ret
          exact ⟨by rw [HX.out, ← HN.out]; rfl, bnext HD.out HB.out⟩
    · have HX := Lib.hid (mostIn_g (xs := xs) h8)
      have h9 : (8 : Int) < n := by omega
      go_enter Try.func23, Try.ntmps23
      go_wp2_with (first | (go_at_call 61; refine (specVisitsOk _ n xs _ h).mono ?_; rw [h1]; rintro e w1 ⟨rfl, hb1⟩))
      go_ret
      exact ⟨by rw [HX.out]; rfl, hb1⟩

def fineIn (n : Nat) (xs : List Int) : Int := if mostIn n xs < 0 then -1 else n - mostIn n xs
theorem mostIn_bd (n : Nat) (xs : List Int) : -1 ≤ mostIn n xs ∧ mostIn n xs ≤ n := by have := mostTo_bd n xs (2 ^ n); unfold mostIn; split <;> omega
theorem implLeastFine (v : Value) (n : Nat) (xs : List Int) (w : World) (h : Recs 2 w v n xs) : Calls Try.prog 26 #[v] w fun e w' => e = .returned (.int .i64 (fineIn n xs)) ∧ Below w.heap.size w w' := by
  obtain ⟨adv, capv, rfl⟩ : ∃ ad cap, v = .slice ad n cap := by obtain ⟨_, _, ad, cap, hh, _⟩ := h; exact ⟨ad, cap, hh⟩
  have hl := h.len
  have hbd := mostIn_bd n xs
  by_cases hneg : mostIn n xs < 0
  · have HX := Lib.hid (show fineIn n xs = -1 from if_pos hneg)
    go_enter Try.func26, Try.ntmps26
    go_wp2_with (first | (go_at_call 24; refine (implMostInTime _ n xs _ h).mono ?_; rintro e w1 ⟨rfl, hb1⟩))
    go_ret
    exact ⟨by rw [HX.out]; rfl, hb1⟩
  · have HX := Lib.hid (show fineIn n xs = n - mostIn n xs from if_neg hneg)
    go_enter Try.func26, Try.ntmps26
    go_wp2_with (first | (go_at_call 24; refine (implMostInTime _ n xs _ h).mono ?_; rintro e w1 ⟨rfl, hb1⟩))
    go_ret
    exact ⟨by rw [HX.out]; rfl, hb1⟩



theorem specLeastFine (v : Value) (n : Nat) (xs : List Int) (w : World) (h : Recs 2 w v n xs) : Calls Try.prog 25 #[v] w fun e w' => e = .returned (.int .i64 (fineIn n xs)) ∧ Below w.heap.size w w' := by
  obtain ⟨adv, capv, rfl⟩ : ∃ ad cap, v = .slice ad n cap := by obtain ⟨_, _, ad, cap, hh, _⟩ := h; exact ⟨ad, cap, hh⟩
  have hl := h.len
  have hbd := mostIn_bd n xs
  by_cases hneg : mostIn n xs < 0
  · have HX := Lib.hid (show fineIn n xs = -1 from if_pos hneg)
    go_enter Try.func25, Try.ntmps25
    go_wp2_with (first | (go_at_call 23; refine (specMostInTime _ n xs _ h).mono ?_; rintro e w1 ⟨rfl, hb1⟩))
    go_ret
    exact ⟨by rw [HX.out]; rfl, hb1⟩
  · have HX := Lib.hid (show fineIn n xs = n - mostIn n xs from if_neg hneg)
    go_enter Try.func25, Try.ntmps25
    go_wp2_with (first | (go_at_call 23; refine (specMostInTime _ n xs _ h).mono ?_; rintro e w1 ⟨rfl, hb1⟩))
    go_ret
    exact ⟨by rw [HX.out]; rfl, hb1⟩
end Go.Proofs.Ytdchgbhhlocmdaa
