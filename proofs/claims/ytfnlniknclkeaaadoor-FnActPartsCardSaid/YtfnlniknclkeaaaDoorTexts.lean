/- Slices of texts; the walk of the laws' comparison of them. -/
import Derived.Test.YtfnlniknclkeaaaDoorText
import Derived.Test.YtfnlniknclkeaaaDoorProg
import Derived.Test.YtfnlniknclkeaaaDoorGA
import Derived.BigQuiet
namespace Go.Proofs.YtfnlniknclkeaaaDoor
open Go.ChangeShapes Go.WideShapes Go.ChangeAt Go.RowKit

def tx (ts : List (List UInt8)) (i : Nat) : List UInt8 := ts.getD i []
/-- a slice that reads as these texts -/
structure Texts (w : World) (v : Value) (ts : List (List UInt8)) : Prop where
  len : ts.length ≤ 1000000000
  ex : ∃ ad cap, v = .slice ad ts.length cap ∧ ∀ i, i < ts.length → ∃ b o, ad = some ⟨b, o, none⟩ ∧ w.cell? ⟨b, o + i, none⟩ = some (.string (bstr (tx ts i)))
theorem Texts.below {w w' : World} {v : Value} {ts : List (List UInt8)} (h : Texts w v ts) (hb : Below w.heap.size w w') : Texts w' v ts := by
  obtain ⟨hl, ad, cap, hv, hc⟩ := h
  refine ⟨hl, ad, cap, hv, fun i hi => ?_⟩
  obtain ⟨b, o, ha, e0⟩ := hc i hi
  exact ⟨b, o, ha, (hb.cell (World.block_lt_of_cell? w _ e0)).trans e0⟩
theorem Texts.of_own {w : World} {B : Nat} {v : Value} {ts : List (List UInt8)} (h : w.ownsRow B 9 1 v ts.length (ts.map fun t => Value.string (bstr t))) (hl : ts.length ≤ 1000000000) : Texts w v ts := by
  refine ⟨hl, ?_⟩
  rcases h.2 with ⟨rfl, h0⟩ | ⟨g, cap, cur, rfl, hbg, hg, hnc, hcm, hcs, htake⟩
  · rw [h0]; exact ⟨none, 0, rfl, fun i hi => absurd hi (by omega)⟩
  · refine ⟨_, _, rfl, fun i hi => ⟨g, 0, rfl, ?_⟩⟩
    rw [Nat.zero_add, h.cellAt i (by simpa using hi)]
    simp [tx, hi]
end Go.Proofs.YtfnlniknclkeaaaDoor
