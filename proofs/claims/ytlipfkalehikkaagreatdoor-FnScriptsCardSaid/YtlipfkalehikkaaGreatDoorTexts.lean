/- Slices of texts; the walk of the laws' comparison of them. -/
import Derived.Test.YtlipfkalehikkaaGreatDoorText
import Derived.Test.YtlipfkalehikkaaGreatDoorProg
import Derived.Test.YtlipfkalehikkaaGreatDoorGA
import Derived.BigQuiet
namespace Go.Proofs.YtlipfkalehikkaaGreatDoor
open Go.ChangeShapes Go.WideShapes Go.ChangeAt Go.RowKit

def tx (ts : List (List UInt8)) (i : Nat) : List UInt8 := ts.getD i []
/-- a slice that reads as these texts -/
structure Texts (w : World) (v : Value) (ts : List (List UInt8)) : Prop where
  len : ts.length ≤ 1000000000
  ex : ∃ ad cap, v = .slice ad ts.length cap ∧ ∀ i, i < ts.length → ∃ b o, ad = some ⟨b, o, none⟩ ∧ w.cell? ⟨b, o + i, none⟩ = some (.string (bstr (tx ts i)))
theorem Texts.below {w w' : World} {v : Value} {ts : List (List UInt8)} (h : Texts w v ts) (hb : Below w.heap.size w w') : Texts w' v ts := by
  obtain ⟨hl, ad, cap, hv, hc⟩ := h
  refine ⟨hl, ad, cap, hv, fun i hi => ?_⟩
  obtain ⟨b, o, ha, e0⟩ := hc i hi
  exact ⟨b, o, ha, (hb.cell (World.block_lt_of_cell? w _ e0)).trans e0⟩
theorem Texts.of_own {w : World} {B : Nat} {v : Value} {ts : List (List UInt8)} (h : w.ownsRow B 9 1 v ts.length (ts.map fun t => Value.string (bstr t))) (hl : ts.length ≤ 1000000000) : Texts w v ts := by
  refine ⟨hl, ?_⟩
  rcases h.2 with ⟨rfl, h0⟩ | ⟨g, cap, cur, rfl, hbg, hg, hnc, hcm, hcs, htake⟩
  · rw [h0]; exact ⟨none, 0, rfl, fun i hi => absurd hi (by omega)⟩
  · refine ⟨_, _, rfl, fun i hi => ⟨g, 0, rfl, ?_⟩⟩
    rw [Nat.zero_add, h.cellAt i (by simpa using hi)]
    simp [tx, hi]
theorem eqStringS_same (a b : Value) (ts : List (List UInt8)) (w : World) (ha : Texts w a ts) (hb : Texts w b ts) : Calls Tryz.prog 15 #[a, b] w fun e w' => e = .returned (.bool true) ∧ Below w.heap.size w w' := by
  obtain ⟨hl, ada, capa, rfl, hc⟩ := ha
  obtain ⟨_, adb, capb, rfl, hd⟩ := hb
  have HC := Lib.hid hc
  have HD := Lib.hid hd
  clear hc hd
  go_enter Tryz.func15, Tryz.ntmps15
  go_wp2_with fail
  go_loopw [5] (fun i wr => ∃ k : Nat, k ≤ ts.length ∧ i = .int .i64 k ∧ Hid (Below w.heap.size w wr)) (fun i _ => ts.length - (intOf i).toNat)
  case atStart => exact ⟨0, Nat.zero_le _, rfl, bref _⟩
  case round =>
    obtain ⟨k, hk, rfl, HB⟩ := hrel
    by_cases hlt : k < ts.length
    · obtain ⟨b, o, rfl, e0⟩ := HC.out k hlt
      obtain ⟨b', o', rfl, e1⟩ := HD.out k hlt
      have e0 := (HB.out.cell (World.block_lt_of_cell? w _ e0)).trans e0
      have e1 := (HB.out.cell (World.block_lt_of_cell? w _ e1)).trans e1
      have i1 : (0 : Int) ≤ (k : Int) := by omega
      have i2 : (k : Int) < (ts.length : Int) := by omega
      have i3 : ¬ (k : Int) < 0 := by omega
      have i4 : ¬ (ts.length : Int) ≤ (k : Int) := by omega
      generalize bstr (tx ts k) = s at *
      go_wp2_with fail
      go_quiet (fail)
      go_wp2
      go_roundw
      case rel => exact ⟨k + 1, by omega, by go_num, bdrewN HB.out _⟩
      case measure => simp [intOf]; omega
    · obtain rfl : k = ts.length := by omega
      go_wp2
      go_ret
      exact ⟨rfl, HB.out⟩
end Go.Proofs.YtlipfkalehikkaaGreatDoor
