/- The laws' comparison of two slices of texts, walked. -/
import Derived.Test.YtfnlniknclkeaaaDoorTexts
import Derived.BigQuiet
namespace Go.Proofs.YtfnlniknclkeaaaDoor
open Go.ChangeShapes Go.WideShapes Go.ChangeAt Go.RowKit

theorem sameTexts_any (a b : Value) (ts : List (List UInt8)) (w : World) (ha : Texts w a ts) (hb : Texts w b ts) : Calls Tryd.prog 12 #[a, b] w fun e w' => e = .returned (.bool true) ∧ Below w.heap.size w w' := by
  obtain ⟨hl, ada, capa, rfl, hc⟩ := ha
  obtain ⟨_, adb, capb, rfl, hd⟩ := hb
  have HC := Lib.hid hc
  have HD := Lib.hid hd
  clear hc hd
  go_enter Tryd.func12, Tryd.ntmps12
  go_wp2_with fail
  go_loopw [5] (fun i wr => ∃ k : Nat, k ≤ ts.length ∧ i = .int .i64 k ∧ Hid (Below w.heap.size w wr)) (fun i _ => ts.length - (intOf i).toNat)
  case atStart => exact ⟨0, Nat.zero_le _, rfl, bref _⟩
  case round =>
    obtain ⟨k, hk, rfl, HB⟩ := hrel
    by_cases hlt : k < ts.length
    · obtain ⟨b, o, rfl, e0⟩ := HC.out k hlt
      obtain ⟨b', o', rfl, e1⟩ := HD.out k hlt
      have e0 := (HB.out.cell (World.block_lt_of_cell? w _ e0)).trans e0
      have e1 := (HB.out.cell (World.block_lt_of_cell? w _ e1)).trans e1
      have i1 : (0 : Int) ≤ (k : Int) := by omega
      have i2 : (k : Int) < (ts.length : Int) := by omega
      have i3 : ¬ (k : Int) < 0 := by omega
      have i4 : ¬ (ts.length : Int) ≤ (k : Int) := by omega
      generalize bstr (tx ts k) = s at *
      go_wp2_with fail
      go_quiet (fail)
      go_wp2
      go_roundw
      case rel => exact ⟨k + 1, by omega, by go_num, bdrewN HB.out _⟩
      case measure => simp [intOf]; omega
    · obtain rfl : k = ts.length := by omega
      go_wp2
      go_ret
      exact ⟨rfl, HB.out⟩
end Go.Proofs.YtfnlniknclkeaaaDoor
