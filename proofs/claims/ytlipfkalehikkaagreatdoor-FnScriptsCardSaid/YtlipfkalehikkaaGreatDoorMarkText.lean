/- The walk of the laws' text of a mark. -/
import Derived.Test.YtlipfkalehikkaaGreatDoorTexts
import Derived.Test.YtlipfkalehikkaaGreatDoorLetText
namespace Go.Proofs.YtlipfkalehikkaaGreatDoor
open Go.ChangeShapes Go.WideShapes Go.ChangeAt Go.RowKit

def markL (u : Nat) : List UInt8 := 109 :: Lib.decDigits u
set_option maxRecDepth 100000 in
theorem markText_any (u : Nat) (hu0 : 0 < u) (hu : u ≤ 9223372036854775807) (w : World) : Calls Tryz.prog 39 #[.int .i64 (u : Int)] w fun e w' => e = .returned (.string (bstr (markL u))) ∧ Below w.heap.size w w' := by
  have hz : ¬ (u : Int) ≤ 0 := by omega
  have hz2 : ¬ u = 0 := by omega
  go_enter Tryz.func39, Tryz.ntmps39
  go_wp2
  go_loopw [0, 3] (fun n s wr => ∃ (m : Nat) (t : List UInt8), m ≤ u ∧ n = .int .i64 (m : Int) ∧ s = .string (bstr t) ∧ Hid (Digs u m t) ∧ Hid (Below w.heap.size w wr)) (fun n _ _ => (intOf n).natAbs)
  case atStart => exact ⟨u, [], Nat.le_refl _, rfl, rfl, Digs.start hu0, bref _⟩
  case round =>
    obtain ⟨m, t, hm, rfl, rfl, HD, HB⟩ := hrel
    by_cases h0 : m = 0
    · subst h0
      have e := Lib.hid (HD.out.zero rfl)
      have hadd : ∀ W : World, (Op.stringOp .add { data := #[109] } (bstr t)).run Tryz.prog W = .ok (.string (bstr (109 :: t))) W := add_at [109] t _ rfl (by have := HD.out.len; have := dec_len20 (u := u) (by omega); simp; omega)
      go_wp2
      go_ret
      exact ⟨by unfold markL; rw [← e.out]; rfl, HB.out⟩
    · have h1 : 0 < m := by omega
      have h2 : (0 : Int) < (m : Int) := by omega
      obtain ⟨x, hx, hx'⟩ : ∃ x : Nat, x = m % 10 ∧ (m : Int) % 10 = (x : Int) := ⟨m % 10, rfl, by omega⟩
      obtain ⟨y, hy, hy'⟩ : ∃ y : Nat, y = m / 10 ∧ (m : Int) / 10 = (y : Int) := ⟨m / 10, rfl, by omega⟩
      have hx10 : x < 10 := by omega
      have ht : t.length ≤ 19 := Nat.le_trans HD.out.len (dec_len20 (by omega))
      have hconv := conv_one (P := Tryz.prog) wr 22 9 5 (48 + (x : Int)) (48 + x) (by omega) Tryz.underlying22 Tryz.underlying5 Tryz.underlying9
      have HD' := Lib.hid (HD.out.step h1)
      rw [← hx, ← hy] at HD'
      generalize UInt8.ofNat (48 + x) = c at hconv HD'
      have hadd := add_bstr (P := Tryz.prog) (wr.alloc (.cells #[.int .u8 (48 + (x : Int))] 5)) [c] t (by simp; omega)
      have hym : y < m := by omega
      have hwr : IntKind.u8.wrap (48 + (x : Int)) = 48 + (x : Int) := by rw [IntKind.wrap_u8]; omega
      clear hx hy ht
      go_wp2
      go_roundw
      case rel => exact ⟨y, _, by omega, by go_num, rfl, HD'.out, balloc HB.out _⟩
      case measure => simp [intOf]; omega
end Go.Proofs.YtlipfkalehikkaaGreatDoor
