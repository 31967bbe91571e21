/- The walk of the laws' test that texts are marked. -/
import Derived.Test.YtlipfkalehikkaaGreatDoorMarkS
import Derived.Deep.DeepCutAuto
import Derived.Deep.RegionHeld3
namespace Go.Proofs.YtlipfkalehikkaaGreatDoor
open Go.ChangeShapes Go.WideShapes Go.ChangeAt Go.RowKit

theorem markLs_tx (k0 n k : Nat) (h : k < n) : tx (markLs k0 n) k = markL (k0 + k) := by simp [tx, markLs, h]
set_option maxRecDepth 100000 in
theorem heldStringS_any (v : Value) (n : Nat) (k0 : Nat) (w : World) (h : Texts w v (markLs k0 n)) (hk0 : 0 < k0) (hkb : k0 ≤ 1000000000000) (hn : n ≤ 1000000000) :
    Calls Tryz.prog 17 #[v, .int .i64 (k0 : Int)] w fun e w' => e = .returned (.int .i64 ((k0 : Int) + (n : Int))) ∧ Below w.heap.size w w' := by
  obtain ⟨_, ad, cap, rfl, hc⟩ := h
  rw [markLs_len] at hc ⊢
  have HC := Lib.hid hc
  clear hc
  go_enter Tryz.func17, Tryz.ntmps17
  go_wp2_with fail
  go_loopw [1, 5] (fun a i wr => ∃ k : Nat, k ≤ n ∧ i = .int .i64 k ∧ a = .int .i64 ((k0 : Int) + (k : Int)) ∧ Hid (Below w.heap.size w wr)) (fun _ i _ => n - (intOf i).toNat)
  case atStart => exact ⟨0, Nat.zero_le _, rfl, by simp, bref _⟩
  case round =>
    obtain ⟨k, hk, rfl, rfl, HB⟩ := hrel
    by_cases hlt : k < n
    · obtain ⟨b, o, rfl, e0⟩ := HC.out k hlt
      rw [markLs_tx k0 n k hlt] at e0
      have e0 := (HB.out.cell (World.block_lt_of_cell? w _ e0)).trans e0
      have hmk := markText_any (k0 + k) (by omega) (by omega) wr.drew
      rw [Int.natCast_add] at hmk
      generalize markL (k0 + k) = u at *
      have i1 : (0 : Int) ≤ (k : Int) := by omega
      have i2 : (k : Int) < (n : Int) := by omega
      have hl := World.block_lt_of_cell? wr _ e0
      simp only at hl
      go_upto_region 4 with fail
      go_region_held3 (fun w' => w'.cell? ⟨b, o + k, none⟩ = some (.string (bstr u)))
        (go_simp)
        (first | (go_at_call 39; refine hmk.mono ?_; rintro e w1 ⟨rfl, hb1⟩; have q0 : w1.cell? ⟨b, o + k, none⟩ = some (.string (bstr u)) := (hb1.cell (p := ⟨b, o + k, none⟩) (by simpa using hl)).trans (by go_simp); have HB1 := Lib.hid (bnext (bdrew HB.out) hb1); clear hb1))
      all_goals
        go_wp2_with fail
        go_roundw
        case rel => exact ⟨k + 1, by omega, by go_num, by go_num, HB1.out⟩
        case measure => simp [intOf]; omega
    · obtain rfl : k = n := by omega
      go_wp2
      go_ret
      exact ⟨rfl, HB.out⟩
end Go.Proofs.YtlipfkalehikkaaGreatDoor
