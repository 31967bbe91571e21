/- The walks of ChainOk, isCopy, above and AboveIn, in the program and in the reference. -/
import Derived.Test.YtdchgbhhlocmdaaScalar
import Derived.Test.YtdchgbhhlocmdaaChainFn
namespace Go.Proofs.Ytdchgbhhlocmdaa
open Go.ChangeShapes Go.WideShapes Go.ChangeAt Go.RowKit

theorem implChainOk_any (v : Value) (n : Nat) (xs : List Int) (w : World) (h : Recs 3 w v n xs) : Calls Try.prog 100 #[v] w fun e w' => e = .returned (.bool (chainOk n xs)) ∧ Below w.heap.size w w' := by
  obtain ⟨hl, he, ad, cap, rfl, hc⟩ := h
  have hat := fun k hk => at3 (w := w) he hc k hk
  clear hc he
  cases h0 : inB n 1 12 with
  | false =>
    have H := Lib.hid (chainOk_len (xs := xs) h0)
    clear hat
    go_enter Try.func100, Try.ntmps100
    go_wp2_with (go_at_call 72; refine (in_any _ _ _ _).mono ?_; rintro e w' ⟨rfl, rfl⟩)
    go_ret
    exact ⟨ret_bool H.out.symm, bref _⟩
  | true =>
    go_enter Try.func100, Try.ntmps100
    go_wp2_with (go_at_call 72; refine (in_any _ _ _ _).mono ?_; rintro e w' ⟨rfl, rfl⟩)
    go_loopw [11] (fun i wr => ∃ k : Nat, k ≤ n ∧ i = .int .i64 k ∧ Hid (allTo (cpOk xs) k = true) ∧ Below w.heap.size w wr) (fun i _ => n - (intOf i).toNat)
    case atStart => exact ⟨0, Nat.zero_le _, rfl, rfl, bref _⟩
    case round =>
      obtain ⟨k, hk, rfl, hx, hbel⟩ := hrel
      by_cases hlt : k < n
      · obtain ⟨b, o, rfl, e0, e1, e2, hb⟩ := hat k hlt
        clear hat
        rw [← hbel.cell (p := ⟨b, o + k * 3, none⟩) hb] at e0
        rw [← hbel.cell (p := ⟨b, o + k * 3 + 1, none⟩) hb] at e1
        rw [← hbel.cell (p := ⟨b, o + k * 3 + 2, none⟩) hb] at e2
        have HB := Lib.hid hbel
        clear hbel
        cases h1 : inB (cP xs k) (-1) ((k : Int) - 1) with
        | false =>
          have H := Lib.hid (chainOk_at hlt (cpOk_1 h1))
          go_wp2_with (go_at_call 72; refine (in_any _ _ _ _).mono ?_; rintro e w' ⟨rfl, rfl⟩)
          go_ret
          exact ⟨ret_bool H.out.symm, balloc HB.out _⟩
        | true =>
          cases h2 : inB (cD xs k) (-1000000) 1000000 with
          | false =>
            have H := Lib.hid (chainOk_at hlt (cpOk_2 h2))
            go_wp2_with (go_at_call 72; refine (in_any _ _ _ _).mono ?_; rintro e w' ⟨rfl, rfl⟩)
            go_ret
            exact ⟨ret_bool H.out.symm, balloc HB.out _⟩
          | true =>
            cases h3 : inB (cE xs k) 0 1000 with
            | false =>
              have H := Lib.hid (chainOk_at hlt (cpOk_3 h3))
              go_wp2_with (go_at_call 72; refine (in_any _ _ _ _).mono ?_; rintro e w' ⟨rfl, rfl⟩)
              go_ret
              exact ⟨ret_bool H.out.symm, balloc HB.out _⟩
            | true =>
              have H := Lib.hid (allTo_succ hx.out (cpOk_t h1 h2 h3))
              go_wp2_with (go_at_call 72; refine (in_any _ _ _ _).mono ?_; rintro e w' ⟨rfl, rfl⟩)
              go_roundw
              case rel => exact ⟨k + 1, by omega, by go_num, H.out, balloc HB.out _⟩
              case measure => simp [intOf]; omega
      · have hall := hx.out
        rw [show k = n by omega] at hall
        clear hat
        have HB := Lib.hid hbel
        clear hbel
        have H := Lib.hid (chainOk_t h0 hall)
        clear hall
        go_wp2
        go_ret
        exact ⟨ret_bool H.out.symm, HB.out⟩

theorem specChainOk_any (v : Value) (n : Nat) (xs : List Int) (w : World) (h : Recs 3 w v n xs) : Calls Try.prog 99 #[v] w fun e w' => e = .returned (.bool (chainOk n xs)) ∧ Below w.heap.size w w' := by
  obtain ⟨hl, he, ad, cap, rfl, hc⟩ := h
  have hat := fun k hk => at3 (w := w) he hc k hk
  clear hc he
  go_enter Try.func99, Try.ntmps99
  go_wp2_with fail
  go_loopw [3] (fun i wr => ∃ k : Nat, k ≤ n ∧ i = .int .i64 k ∧ Hid (allTo (cpOk xs) k = true) ∧ Below w.heap.size w wr) (fun i _ => n - (intOf i).toNat)
  case atStart => exact ⟨0, Nat.zero_le _, rfl, rfl, bref _⟩
  case round =>
    obtain ⟨k, hk, rfl, hx, hbel⟩ := hrel
    by_cases hlt : k < n
    · obtain ⟨b, o, rfl, e0, e1, e2, hb⟩ := hat k hlt
      clear hat
      rw [← hbel.cell (p := ⟨b, o + k * 3, none⟩) hb] at e0
      rw [← hbel.cell (p := ⟨b, o + k * 3 + 1, none⟩) hb] at e1
      rw [← hbel.cell (p := ⟨b, o + k * 3 + 2, none⟩) hb] at e2
      have HB := Lib.hid hbel
      clear hbel
      cases h1 : inB (cP xs k) (-1) ((k : Int) - 1) with
      | false =>
        have H := Lib.hid (chainOk_at hlt (cpOk_1 h1))
        go_wp2_with (go_at_call 77; refine (l01In_any _ _ _ _).mono ?_; rintro e w' ⟨rfl, rfl⟩)
        go_ret
        exact ⟨ret_bool H.out.symm, balloc HB.out _⟩
      | true =>
        cases h2 : inB (cD xs k) (-1000000) 1000000 with
        | false =>
          have H := Lib.hid (chainOk_at hlt (cpOk_2 h2))
          go_wp2_with (go_at_call 77; refine (l01In_any _ _ _ _).mono ?_; rintro e w' ⟨rfl, rfl⟩)
          go_ret
          exact ⟨ret_bool H.out.symm, balloc HB.out _⟩
        | true =>
          cases h3 : inB (cE xs k) 0 1000 with
          | false =>
            have H := Lib.hid (chainOk_at hlt (cpOk_3 h3))
            go_wp2_with (go_at_call 77; refine (l01In_any _ _ _ _).mono ?_; rintro e w' ⟨rfl, rfl⟩)
            go_ret
            exact ⟨ret_bool H.out.symm, balloc HB.out _⟩
          | true =>
            have H := Lib.hid (allTo_succ hx.out (cpOk_t h1 h2 h3))
            go_wp2_with (go_at_call 77; refine (l01In_any _ _ _ _).mono ?_; rintro e w' ⟨rfl, rfl⟩)
            go_roundw
            case rel => exact ⟨k + 1, by omega, by go_num, H.out, balloc HB.out _⟩
            case measure => simp [intOf]; omega
    · have hall := hx.out
      rw [show k = n by omega] at hall
      clear hat
      have HB := Lib.hid hbel
      clear hbel
      have H := Lib.hid (show chainOk n xs = inB n 1 12 by simp [chainOk, hall])
      clear hall
      go_wp2_with (go_at_call 77; refine (l01In_any _ _ _ _).mono ?_; rintro e w' ⟨rfl, rfl⟩)
      go_ret
      exact ⟨ret_bool H.out.symm, HB.out⟩

end Go.Proofs.Ytdchgbhhlocmdaa
