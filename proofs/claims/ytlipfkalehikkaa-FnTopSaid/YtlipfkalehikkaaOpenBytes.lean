/- An argument that is a slice of bytes. -/
import Derived.Test.YtlipfkalehikkaaGH
import Derived.Lib.SmallJoins
import Derived.OpenShut
namespace Go.Proofs.Ytlipfkalehikkaa
open Go.ChangeShapes Go.WideShapes Go.ChangeAt Go.RowKit Go.Joins
section
variable {H : Type} {enc : TypeId × Value → H} {P : Program} {w : World} {base : Nat} {spare : Nat → Bool} {held : Bool}
theorem bytes_of_trod {t e : TypeId} {n : Nat} {v : Value} {y : DataW H × List MemPlace} (ht : P.underlying t = some (.slice e)) (he : P.underlying e = some (.int .u8)) (hC : P.cellsOf e = 1)
    (h : DataW.trod enc P w base spare held n t [v] = some y) : ∃ bs, Bytes w v bs := by
  rcases open_ints ht he hC h with ⟨hcs, _⟩ | ⟨a, l, c, zs, hcs, _, hl, hm, hz, _, hcell, hwf⟩
  · simp at hcs
    subst hcs
    exact ⟨[], by simp, none, 0, rfl, fun i hi => by simp at hi⟩
  · simp at hcs
    subst hcs
    have hzl : l ≤ zs.length := by rw [hz]; split <;> omega
    have hlen : (zs.take l).length = l := by simp; omega
    refine ⟨zs.take l, by rw [hlen]; unfold maxLen at hm; omega, some a, c, by rw [hlen], fun i hi => ?_⟩
    rw [hlen] at hi
    have hc := hcell i (by omega)
    have hr := range_u8 hwf i
    obtain ⟨b, off, spot⟩ := a
    have hspot : spot = none := by
      have := World.cell?_spot (hcell 0 (by omega))
      simpa [Addr.add] using this
    subst hspot
    have e : nth (zs.take l) i = zs[i]?.getD 0 := by simp [nth, hi]
    refine ⟨b, off, rfl, ?_, by rw [e]; exact hr.1, by rw [e]; exact hr.2⟩
    rw [Addr.add_lit] at hc
    rw [hc, e]
    simp [List.getD_eq_getElem?_getD]
theorem open_Bytes {t e : TypeId} {v : Value} {d : DataW H} {p : List MemPlace} {r : Reach} {b0 : Nat} (ht : P.underlying t = some (.slice e)) (he : P.underlying e = some (.int .u8)) (hC : P.cellsOf e = 1)
    (hv : Value.okWide P w r b0 t v) (h : DataW.Trod enc P w base spare held t v d p) : ∃ bs, Bytes w v bs := by
  obtain ⟨a, len, cap, rfl⟩ := okWide_slice ht hv
  obtain ⟨fuel, hf⟩ := h
  exact bytes_of_trod ht he hC (by simpa [Value.cells] using hf)
end
end Go.Proofs.Ytlipfkalehikkaa
