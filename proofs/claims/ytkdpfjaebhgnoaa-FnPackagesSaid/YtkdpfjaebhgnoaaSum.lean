/- The walks of the sum of a list, in the program and in the reference. -/
import Derived.Test.YtkdpfjaebhgnoaaProg
import Derived.Test.YtkdpfjaebhgnoaaBase
namespace Go.Proofs.Ytkdpfjaebhgnoaa
open Go.ChangeShapes Go.WideShapes Go.ChangeAt Go.RowKit
theorem sumOf_any (v : Value) (xs : List Int) (w : World) (h : Ints w v xs) (hb : ∀ k, k < xs.length → 0 ≤ nth xs k ∧ nth xs k ≤ 100000) (h20 : xs.length ≤ 1048576) :
    Calls Try.prog 71 #[v] w fun e w' => e = .returned (.int .i64 (sumI xs)) ∧ w = w' := by
  have hs := fun k hk => sumTo_bd (nth xs) 100000 xs.length hb k hk
  obtain ⟨hl, ad, cap, rfl, hc⟩ := h
  go_enter Try.func71, Try.ntmps71
  go_wp2_with fail
  go_loop [3, 8] (fun a i => ∃ k : Nat, k ≤ xs.length ∧ i = .int .i64 k ∧ a = .int .i64 (sumTo (nth xs) k)) (fun _ i => xs.length - (intOf i).toNat)
  case atStart => exact ⟨0, Nat.zero_le _, rfl, rfl⟩
  case round =>
    obtain ⟨k, hk, rfl, rfl⟩ := hrel
    by_cases hlt : k < xs.length
    · obtain ⟨b, o, rfl, hcell⟩ := hc k hlt
      obtain ⟨b1, b2⟩ := hb k hlt
      obtain ⟨s1, s2⟩ := hs k hk
      have H := Lib.hid (show sumTo (nth xs) (k + 1) = sumTo (nth xs) k + nth xs k from rfl)
      clear hc hb hs
      go_wp2
      go_round
      case rel => exact ⟨k + 1, by omega, by go_num, by rw [H.out]⟩
      case measure => simp [intOf]; omega
    · obtain rfl : k = xs.length := by omega
      clear hc hb hs
      go_wp2
      go_ret
      exact ⟨rfl, rfl⟩

theorem l34Sum_any (v : Value) (xs : List Int) (w : World) (h : Ints w v xs) (hb : ∀ k, k < xs.length → 0 ≤ nth xs k ∧ nth xs k ≤ 100000) (h20 : xs.length ≤ 1048576) :
    Calls Try.prog 70 #[v] w fun e w' => e = .returned (.int .i64 (sumI xs)) ∧ w = w' := by
  have hs := fun k hk => sumTo_bd (nth xs) 100000 xs.length hb k hk
  obtain ⟨hl, ad, cap, rfl, hc⟩ := h
  go_enter Try.func70, Try.ntmps70
  go_wp2_with fail
  go_loop [3, 4] (fun a i => ∃ k : Nat, k ≤ xs.length ∧ i = .int .i64 k ∧ a = .int .i64 (sumTo (nth xs) k)) (fun _ i => xs.length - (intOf i).toNat)
  case atStart => exact ⟨0, Nat.zero_le _, rfl, rfl⟩
  case round =>
    obtain ⟨k, hk, rfl, rfl⟩ := hrel
    by_cases hlt : k < xs.length
    · obtain ⟨b, o, rfl, hcell⟩ := hc k hlt
      obtain ⟨b1, b2⟩ := hb k hlt
      obtain ⟨s1, s2⟩ := hs k hk
      have H := Lib.hid (show sumTo (nth xs) (k + 1) = sumTo (nth xs) k + nth xs k from rfl)
      clear hc hb hs
      go_wp2
      go_round
      case rel => exact ⟨k + 1, by omega, by go_num, by rw [H.out]⟩
      case measure => simp [intOf]; omega
    · obtain rfl : k = xs.length := by omega
      clear hc hb hs
      go_wp2
      go_ret
      exact ⟨rfl, rfl⟩

end Go.Proofs.Ytkdpfjaebhgnoaa
