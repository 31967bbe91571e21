/- The walk of isAscending. -/
import Derived.Test.YtdchgbhhlocmdaaHouseFn
import Derived.Test.YtdchgbhhlocmdaaProg
namespace Go.Proofs.Ytdchgbhhlocmdaa
open Go.ChangeShapes Go.WideShapes Go.ChangeAt Go.RowKit

theorem isAscending_any (v : Value) (ts : List Int) (w : World) (h : Ints w v ts) : Calls Try.prog 91 #[v] w fun e w' => e = .returned (.bool (ascOk ts)) ∧ Below w.heap.size w w' := by
  obtain ⟨hl, ad, cap, rfl, hc⟩ := h
  go_enter Try.func91, Try.ntmps91
  go_wp2_with fail
  go_loopw [3] (fun i wr => ∃ k m : Nat, 1 ≤ k ∧ (k ≤ ts.length ∨ k = 1) ∧ i = .int .i64 k ∧ Hid (allTo (ascAt ts) k = true) ∧ wr = w.drewN m) (fun i _ => ts.length - (intOf i).toNat)
  case atStart => exact ⟨1, 0, Nat.le_refl _, .inr rfl, rfl, rfl, rfl⟩
  case round =>
    obtain ⟨k, m, hk1, hk2, rfl, hx, rfl⟩ := hrel
    by_cases hlt : k < ts.length
    · obtain ⟨b, o, rfl, e0⟩ := hc k hlt
      obtain ⟨b', o', ha, e1⟩ := hc (k - 1) (by omega)
      simp only [Option.some.injEq, Addr.mk.injEq, and_true] at ha
      obtain ⟨rfl, rfl⟩ := ha
      clear hc hk2
      obtain ⟨j, rfl⟩ : ∃ j, k = j + 1 := ⟨k - 1, by omega⟩
      have e1 : w.cell? ⟨b, o + j, none⟩ = some (.int .i64 (nth ts j)) := e1
      have i0 : (0 : Int) ≤ (j : Int) := by omega
      have i1 : (j : Int) + 1 < (ts.length : Int) := by omega
      have i2 : (j : Int) < (ts.length : Int) := by omega
      have i3 : (0 : Int) ≤ (j : Int) + 1 := by omega
      have n1 : IntKind.i64.wrap ((j : Int) + 1 - 1) = (j : Int) := by rw [IntWalk.i64_in _ (by omega)]; omega
      by_cases hp : nth ts (j + 1) ≤ nth ts j
      · have H := Lib.hid (show ascOk ts = false from allTo_no (k := j + 1) hlt (by simp [ascAt]; omega))
        have hd : decide (nth ts (j + 1) ≤ nth ts j) = true := by simpa using hp
        go_wp2_with fail
        go_quiet (fail)
        go_wp2
        go_ret
        exact ⟨ret_bool H.out.symm, by first | exact bdrewN (bref _) _ | exact bdrewN (bdrewN (bref _) _) _⟩
      · have H := Lib.hid (show allTo (ascAt ts) (j + 1 + 1) = true from allTo_succ hx.out (by simp [ascAt]; omega))
        have hd : decide (nth ts (j + 1) ≤ nth ts j) = false := by simpa using hp
        go_wp2_with fail
        go_quiet (fail)
        go_wp2
        go_roundw
        case rel => exact ⟨j + 1 + 1, _, by omega, .inl (by omega), by go_num, H.out, by first | rfl | exact World.drewN_drewN _ _ _⟩
        case measure => simp [intOf]; omega
    · have H := Lib.hid (show ascOk ts = true from by
        have h1 := hx.out
        unfold ascOk
        rcases Nat.eq_zero_or_pos ts.length with h0 | h0
        · rw [h0]; rfl
        · rw [show k = ts.length by omega] at h1; exact h1)
      clear hc hk2
      go_wp2
      go_ret
      exact ⟨ret_bool H.out.symm, bdrewN (bref _) _⟩
end Go.Proofs.Ytdchgbhhlocmdaa
