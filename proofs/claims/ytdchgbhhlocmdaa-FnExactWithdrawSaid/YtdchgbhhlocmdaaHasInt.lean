/- The walks of the tests whether a list holds a number. -/
import Derived.Test.YtdchgbhhlocmdaaProg
import Derived.Test.YtdchgbhhlocmdaaBase
namespace Go.Proofs.Ytdchgbhhlocmdaa
open Go.ChangeShapes Go.WideShapes Go.ChangeAt Go.RowKit
theorem hasInt_any (v : Value) (xs : List Int) (n : Int) (w : World) (h : Ints w v xs) : Calls Try.prog 76 #[v, .int .i64 n] w fun e w' => e = .returned (.bool (decide (n ∈ xs))) ∧ w = w' := by
  obtain ⟨hl, ad, cap, rfl, hc⟩ := h
  go_enter Try.func76, Try.ntmps76
  go_wp2_with fail
  go_loop [9] (fun i => ∃ k : Nat, k ≤ xs.length ∧ i = .int .i64 k ∧ Hid (n ∉ xs.take k)) (fun i => xs.length - (intOf i).toNat)
  case atStart => exact ⟨0, Nat.zero_le _, rfl, by simp [Hid]⟩
  case round =>
    obtain ⟨k, hk, rfl, hx⟩ := hrel
    by_cases hlt : k < xs.length
    · obtain ⟨b, o, rfl, hcell⟩ := hc k hlt
      clear hc
      by_cases heq : nth xs k = n
      · have hb : (nth xs k == n) = true := by simp [heq]
        have H := Lib.hid (show n ∈ xs from heq ▸ nth_mem xs k hlt)
        clear heq
        go_wp2
        go_ret
        exact ⟨ret_bool (by simp [H.out]), rfl⟩
      · have hb : (nth xs k == n) = false := by simp [heq]
        have H := Lib.hid (show n ∉ xs.take (k + 1) by rw [take_nth xs k hlt]; have := hx.out; simp only [List.mem_append, List.mem_singleton, not_or]; exact ⟨this, fun e => heq e.symm⟩)
        clear heq
        go_wp2
        go_round
        case rel => exact ⟨k + 1, by omega, by go_num, H.out⟩
        case measure => simp [intOf]; omega
    · have H := Lib.hid (show n ∉ xs by have := hx.out; rwa [List.take_of_length_le (by omega)] at this)
      clear hc
      go_wp2
      go_ret
      exact ⟨ret_bool (by simp [H.out]), rfl⟩

end Go.Proofs.Ytdchgbhhlocmdaa
