/- The walks of CountLetters, in the program and in the reference. -/
import Derived.Test.YtdeongecbmjkjaaDoorLettersFn
import Derived.Test.YtdeongecbmjkjaaDoorProg
namespace Go.Proofs.YtdeongecbmjkjaaDoor
open Go.ChangeShapes Go.WideShapes Go.ChangeAt Go.RowKit

def countL (ls : List (Int × List Int)) : Int := sumTo (lLen ls) ls.length

theorem implCountLetters (v : Value) (ls : List (Int × List Int)) (w : World) (h : Letters w v ls) (hbk : bulk ls ≤ 1048576) : Calls Tryd.prog 46 #[v] w fun e w' => e = .returned (.int .i64 (countL ls)) ∧ Below w.heap.size w w' := by
  obtain ⟨hl, ad, cap, rfl, hc⟩ := h
  go_enter Tryd.func46, Tryd.ntmps46
  go_wp2_with fail
  go_loopw [3, 8] (fun s i wr => ∃ k : Nat, k ≤ ls.length ∧ i = .int .i64 k ∧ s = .int .i64 (sumTo (lLen ls) k) ∧ Below w.heap.size w wr) (fun _ i _ => ls.length - (intOf i).toNat)
  case atStart => exact ⟨0, Nat.zero_le _, rfl, rfl, bref _⟩
  case round =>
    obtain ⟨k, hk, rfl, rfl, hbel⟩ := hrel
    by_cases hlt : k < ls.length
    · obtain ⟨b, o, u, rfl, e0, e1, hi⟩ := hc k hlt
      obtain ⟨_, ad', cap', rfl, _⟩ := hi
      clear hc
      have g0 := (hbel.cell (p := ⟨b, o + k * 2, none⟩) (World.block_lt_of_cell? w _ e0)).trans e0
      have g1 := (hbel.cell (p := ⟨b, o + k * 2 + 1, none⟩) (World.block_lt_of_cell? w _ e1)).trans e1
      have h1 := bulkTo_le ls (k + 1) hlt
      have h2 := bulkTo_le ls k (by omega)
      have h3 := bulkTo_ge ls k
      have h4 := bulkTo_succ ls k
      unfold bulkTo at h1 h2 h3 h4
      have s0 : 0 ≤ sumTo (lLen ls) k := by omega
      have s1 : sumTo (lLen ls) k ≤ 1048576 := by omega
      have s2 : ((lCopies ls k).length : Int) ≤ 1048576 := by omega
      have H := Lib.hid (show sumTo (lLen ls) (k + 1) = sumTo (lLen ls) k + ((lCopies ls k).length : Int) from rfl)
      have HB := Lib.hid hbel
      clear e0 e1 h1 h2 h3 h4 hbel
      go_wp2
      go_roundw
      case rel => exact ⟨k + 1, by omega, by go_num, by rw [H.out], balloc HB.out _⟩
      case measure => simp [intOf]; omega
    · obtain rfl : k = ls.length := by omega
      have HB := Lib.hid hbel
      clear hc hbel
      go_wp2
      go_ret
      exact ⟨rfl, HB.out⟩

end Go.Proofs.YtdeongecbmjkjaaDoor
