/- Texts laid together: CopyS, HouseS, ActS, MarkO. -/
import Derived.Deep.RegionHeld3
import Derived.Test.YtlipfkalehikkaaProg
import Derived.Test.YtlipfkalehikkaaGA
import Derived.Test.YtlipfkalehikkaaGB
/- The walks of the laws' helpers on copies: toCopyS, szCopyS, eqCopyS. -/
namespace Go.Proofs.Ytlipfkalehikkaa
open Go.ChangeShapes Go.WideShapes Go.ChangeAt Go.RowKit

theorem Try.infoCopy : (Try.prog.info? 40).map (fun i => (i.zero, i.size, i.bytes)) = some (some (.agg #[.int .i64 0, .int .i64 0, .int .i64 0]), 3, 24) := by kernel_rfl

end Go.Proofs.Ytlipfkalehikkaa

/- The walks of the laws' helpers on houses. -/
namespace Go.Proofs.Ytlipfkalehikkaa
open Go.ChangeShapes Go.WideShapes Go.ChangeAt Go.RowKit

theorem box_kept {w w' : World} {v : Value} {b : Nat} (hg : w.grownBy w' v.ownBlock) (hb : b < w.heap.size) (hv : v.ownBlock ≠ some b) : ∀ o, w'.cell? ⟨b, o, none⟩ = w.cell? ⟨b, o, none⟩ :=
  fun _ => World.cell?_of_block (hg.block b hb fun e => hv e.symm)
end Go.Proofs.Ytlipfkalehikkaa

/- The walks of the laws' helpers on slices of structs of 5 integers: Act. -/
namespace Go.Proofs.Ytlipfkalehikkaa
open Go.ChangeShapes Go.WideShapes Go.ChangeAt Go.RowKit

theorem infoAct' : (Try.prog.info? 34).map (fun i => (i.zero, i.size, i.bytes)) = some (some (.agg #[.int .i64 0, .int .i64 0, .int .i64 0, .int .i64 0, .int .i64 0]), 5, 40) := by kernel_rfl

theorem atAct {w : World} {ad : Option Addr} {n : Nat} {xs : List Int} (he : xs.length = n * 5)
    (hc : ∀ i, i < xs.length → ∃ b o, ad = some ⟨b, o, none⟩ ∧ w.cell? ⟨b, o + i, none⟩ = some (.int .i64 (nth xs i))) (k : Nat) (hk : k < n) :
    ∃ b o, ad = some ⟨b, o, none⟩ ∧ w.cell? ⟨b, o + k * 5, none⟩ = some (.int .i64 (nth xs (k * 5))) ∧ w.cell? ⟨b, o + k * 5 + 1, none⟩ = some (.int .i64 (nth xs (k * 5 + 1))) ∧ w.cell? ⟨b, o + k * 5 + 2, none⟩ = some (.int .i64 (nth xs (k * 5 + 2))) ∧ w.cell? ⟨b, o + k * 5 + 3, none⟩ = some (.int .i64 (nth xs (k * 5 + 3))) ∧ w.cell? ⟨b, o + k * 5 + 4, none⟩ = some (.int .i64 (nth xs (k * 5 + 4))) ∧ b < w.heap.size := by
  obtain ⟨b, o, rfl, h0⟩ := hc (k * 5) (by omega)
  obtain ⟨b1, o1, g1, h1⟩ := hc (k * 5 + 1) (by omega)
  simp only [Option.some.injEq, Addr.mk.injEq, and_true] at g1
  obtain ⟨rfl, rfl⟩ := g1
  obtain ⟨b2, o2, g2, h2⟩ := hc (k * 5 + 2) (by omega)
  simp only [Option.some.injEq, Addr.mk.injEq, and_true] at g2
  obtain ⟨rfl, rfl⟩ := g2
  obtain ⟨b3, o3, g3, h3⟩ := hc (k * 5 + 3) (by omega)
  simp only [Option.some.injEq, Addr.mk.injEq, and_true] at g3
  obtain ⟨rfl, rfl⟩ := g3
  obtain ⟨b4, o4, g4, h4⟩ := hc (k * 5 + 4) (by omega)
  simp only [Option.some.injEq, Addr.mk.injEq, and_true] at g4
  obtain ⟨rfl, rfl⟩ := g4
  exact ⟨b, o, rfl, h0, h1, h2, h3, h4, World.block_lt_of_cell? w _ h0⟩
theorem madeAct (n : Nat) : (madeCells #[Value.int .i64 0, Value.int .i64 0, Value.int .i64 0, Value.int .i64 0, Value.int .i64 0] (n * 5)).toList = List.replicate (n * 5) (Value.int .i64 0) := by
  apply List.ext_getElem?
  intro j
  by_cases hj : j < n * 5
  · have : j % 5 = 0 ∨ j % 5 = 1 ∨ j % 5 = 2 ∨ j % 5 = 3 ∨ j % 5 = 4 := by omega
    rcases this with h | h | h | h | h <;> simp [madeCells, hj, h]
  · simp [madeCells, hj]
theorem putAct (xs : List Int) (k n : Nat) (he : xs.length = n * 5) (h : k < n) :
    (((((((xs.take (k * 5)).map (Value.int .i64) ++ List.replicate (xs.length - k * 5) (Value.int .i64 0)).set (k * 5) (.int .i64 (nth xs (k * 5)))).set (k * 5 + 1) (.int .i64 (nth xs (k * 5 + 1)))).set (k * 5 + 2) (.int .i64 (nth xs (k * 5 + 2)))).set (k * 5 + 3) (.int .i64 (nth xs (k * 5 + 3)))).set (k * 5 + 4) (.int .i64 (nth xs (k * 5 + 4)))) =
      (xs.take ((k + 1) * 5)).map (Value.int .i64) ++ List.replicate (xs.length - (k + 1) * 5) (.int .i64 0) := by
  have e0 := put_nth xs (k * 5) (by omega)
  have e1 := put_nth xs (k * 5 + 1) (by omega)
  have e2 := put_nth xs (k * 5 + 2) (by omega)
  have e3 := put_nth xs (k * 5 + 3) (by omega)
  have e4 := put_nth xs (k * 5 + 4) (by omega)
  rw [e0, e1, e2, e3, e4]
  rw [show (k + 1) * 5 = k * 5 + 4 + 1 by omega]

end Go.Proofs.Ytlipfkalehikkaa

/- The laws' marks, over what a call made. -/
namespace Go.Proofs.Ytlipfkalehikkaa
open Go.ChangeShapes Go.WideShapes Go.ChangeAt Go.RowKit

end Go.Proofs.Ytlipfkalehikkaa
