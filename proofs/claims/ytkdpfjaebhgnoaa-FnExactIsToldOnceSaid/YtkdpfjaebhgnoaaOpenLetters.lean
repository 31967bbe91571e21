/- An argument that is a slice of letters reads as a list of letters. -/
import Derived.Test.YtkdpfjaebhgnoaaOpenRecs
import Derived.Test.YtkdpfjaebhgnoaaLettersFn
namespace Go.Proofs.Ytkdpfjaebhgnoaa
open Go.ChangeShapes Go.WideShapes Go.ChangeAt Go.RowKit Go.Joins Go.Deep

/-- every number in the letters fits an int64 -/
def LsWf (ls : List (Int × List Int)) : Prop := ∀ k, k < ls.length → (Lit.int .i64 (lOwner ls k)).wf = true ∧ ∀ x ∈ lCopies ls k, (Lit.int .i64 x).wf = true
section
variable {H : Type} {enc : TypeId × Value → H} {P : Program} {w : World} {base : Nat} {spare : Nat → Bool} {held : Bool}
theorem intsw_of_trod {t e : TypeId} {n : Nat} {v : Value} {y : DataW H × List MemPlace} (ht : P.underlying t = some (.slice e)) (he : P.underlying e = some (.int .i64)) (hC : P.cellsOf e = 1)
    (h : DataW.trod enc P w base spare held n t [v] = some y) : ∃ xs, Ints w v xs ∧ ∀ x ∈ xs, (Lit.int .i64 x).wf = true := by
  rcases open_ints ht he hC h with ⟨hcs, _⟩ | ⟨a, l, c, zs, hcs, _, hl, hm, hz, _, hcell, hw⟩
  · simp at hcs
    subst hcs
    exact ⟨[], ⟨by simp, none, 0, rfl, fun i hi => by simp at hi⟩, by simp⟩
  · simp at hcs
    subst hcs
    have hzl : l ≤ zs.length := by rw [hz]; split <;> omega
    have hlen : (zs.take l).length = l := by simp; omega
    refine ⟨zs.take l, ⟨by rw [hlen]; unfold maxLen at hm; omega, some a, c, by rw [hlen], fun i hi => ?_⟩, fun x hx => hw x (List.mem_of_mem_take hx)⟩
    rw [hlen] at hi
    have hc := hcell i (by omega)
    obtain ⟨b, off, spot⟩ := a
    have hspot : spot = none := by
      have := World.cell?_spot (hcell 0 (by omega))
      simpa [Addr.add] using this
    subst hspot
    refine ⟨b, off, rfl, ?_⟩
    rw [Addr.add_lit] at hc
    rw [hc]
    simp [nth, hi]
theorem open_letters {t e ti : TypeId} {f0 f1 : Field} {v : Value} {d : DataW H} {p : List MemPlace} {r : Reach} {b0 : Nat} (ht : P.underlying t = some (.slice e)) (he : P.underlying e = some (.struct #[f0, f1]))
    (hone : oneCellFields P #[f0, f1] = true) (hC : P.cellsOf e = 2) (h0 : P.underlying f0.type = some (.int .i64)) (h1 : P.underlying f1.type = some (.slice ti)) (hti : P.underlying ti = some (.int .i64)) (hCi : P.cellsOf ti = 1)
    (hv : Value.okWide P w r b0 t v) (h : DataW.Trod enc P w base spare held t v d p) : ∃ ls, Letters w v ls ∧ LsWf ls := by
  obtain ⟨a, len, cap, rfl⟩ := okWide_slice ht hv
  obtain ⟨fuel, hf⟩ := h
  rcases open_slice_fields ht he hone hC (by simpa [Value.cells] using hf) with ⟨hcs, _⟩ | ⟨a', len', cap', mm, D, Pl, hcs, _, hl, hm, hmm, _, hg⟩
  · simp at hcs
    obtain ⟨rfl, rfl, rfl⟩ := hcs
    exact ⟨[], ⟨by simp, none, 0, rfl, fun i hi => by simp at hi⟩, fun k hk => by simp at hk⟩
  · simp at hcs
    obtain ⟨rfl, rfl, rfl⟩ := hcs
    clear hf
    have hle : len ≤ mm := by rw [hmm]; split <;> omega
    have hat : ∀ k, ∃ q : Int × List Int, k < len → ∃ u : Value, w.cell? (a'.add (k * 2)) = some (.int .i64 q.1) ∧ w.cell? (a'.add (k * 2 + 1)) = some u ∧ Ints w u q.2 ∧ (Lit.int .i64 q.1).wf = true ∧ ∀ z ∈ q.2, (Lit.int .i64 z).wf = true := by
      intro k
      by_cases hk : k < len
      · obtain ⟨ys, nn, _, _, _, hall⟩ := hg k (by omega)
        obtain ⟨u0, y0, c0, _, t0⟩ := hall 0 f0 rfl
        obtain ⟨u1, y1, c1, _, t1⟩ := hall 1 f1 rfl
        obtain ⟨x, rfl, wx⟩ := open_intcell h0 t0
        obtain ⟨xs, hi, hw⟩ := intsw_of_trod h1 hti hCi t1
        exact ⟨(x, xs), fun _ => ⟨u1, c0, c1, hi, wx, hw⟩⟩
      · exact ⟨(0, []), fun h => absurd h hk⟩
    obtain ⟨g, hq⟩ := Classical.axiomOfChoice hat
    have hsp : 0 < len → a'.spot = none := fun h0 => by
      obtain ⟨_, c0, _⟩ := hq 0 h0
      have := World.cell?_spot c0
      simpa [Addr.add] using this
    refine ⟨(List.range len).map g, ⟨by simp; unfold maxLen at hm; omega, some a', cap, by simp, fun k hk => ?_⟩, fun k hk => ?_⟩
    · simp at hk
      obtain ⟨u, c0, c1, hi, _⟩ := hq k hk
      obtain ⟨b, off, spot⟩ := a'
      have : spot = none := hsp (by omega)
      subst this
      rw [Addr.add_lit] at c0 c1
      exact ⟨b, off, u, rfl, by rw [c0]; simp [lOwner, hk], by rw [Nat.add_assoc]; exact c1, by simpa [lCopies, hk] using hi⟩
    · simp at hk
      obtain ⟨u, _, _, _, w1, w2⟩ := hq k hk
      exact ⟨by simpa [lOwner, hk] using w1, by simpa [lCopies, hk] using w2⟩
end
end Go.Proofs.Ytkdpfjaebhgnoaa
